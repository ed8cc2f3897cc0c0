/- what functions of this program compute: contracts, each a function's own -/
import Derived.Test.YtacpgblabfelhaaGreatDoorAbsK2
import Derived.Test.YtacpgblabfelhaaGreatDoorAbsFacts
import Derived.Test.YtacpgblabfelhaaGreatDoorAbsF5
import Derived.Test.YtacpgblabfelhaaGreatDoorAbsShelf
import Derived.Lib.SlTrimSet
import Derived.Lib.Atoi
import Derived.Lib.Itoa
import Derived.Lib.ItoaNum
import Derived.Lib.AtoiErrMem
import Derived.Lib.ItoaLen
import Derived.Lib.SplitLaws
import Derived.Shelf.Bytes.SlIndexWhole
import Derived.Lib.Index
import Derived.Lib.IndexBytes
import Derived.Shelf.Spec.SlicesGrow
namespace Go.Abs
open Go Go.Proofs
set_option maxHeartbeats 4000000
set_option maxRecDepth 100000
set_option linter.unusedVariables false
set_option linter.unusedSimpArgs false
def ckCheckFile : Ck
  | [.sl n f] => some (isLs cRec n f ∧ recsOk (lsOf cRec n f), .int .i64 (checkFileL (lsOf cRec n f)))
  | _ => none
theorem conCheckFile : Con pg 23 ckCheckFile := by
  have hct := (ctA_ok conCheckRec (ctA_ok conWrite (ctN_ok _)))
  intro args q r h hq
  unfold ckCheckFile at h
  split at h
  · cases h
    rename_i n f
    refine pcall_args (args' := [.sl (lsOf cRec n f).length (lsF cRec (lsOf cRec n f))]) ⟨isLs.vle hq.1, trivial⟩ ?_
    obtain ⟨-, hl⟩ := hq
    generalize lsOf cRec n f = l at hl ⊢
    refine w23 (fun _ => false) [] rfl hct rfl rfl ?_
    push_cast (config := { maxSteps := 10000000 })
    refine ⟨fun h => by unfold checkFileL; rw [if_pos (by omega)], fun h => ?_⟩
    have e0 : checkFileL l = cfGo [] 0 l := by unfold checkFileL; rw [if_neg (by omega)]
    rw [e0]
    refine LoopW.adj ⟨hct, fol⟩ (by kernel_rfl) [] (fun t : Nat × Int => [(3, .map 11), (4, .int .i64 t.2), (12, .sl l.length (lsF cRec l)), (13, .int .i64 l.length), (14, .int .i64 t.1)]) (fun t => [(11, .mp .str (seenM ((l.take t.1).map Rcd.id)))]) (fun t => t.1 ≤ l.length ∧ 0 ≤ t.2 ∧ t.2 ≤ t.1 * 400000 ∧ cfGo ((l.take t.1).map Rcd.id) t.2 (l.drop t.1) = cfGo [] 0 l) (fun t => l.length - t.1) (0, 0) ?_ fun t ht => ?_
    · push_cast (config := { maxSteps := 10000000 })
      exact ⟨Nat.zero_le _, seen_nil⟩
    · obtain ⟨i, m⟩ := t
      obtain ⟨h1, h2, h3, h4⟩ : i ≤ l.length ∧ 0 ≤ m ∧ m ≤ i * 400000 ∧ cfGo ((l.take i).map Rcd.id) m (l.drop i) = cfGo [] 0 l := ht
      push_cast (config := { maxSteps := 10000000 })
      refine ⟨fun hi => ?_, fun hi => ?_⟩
      · rw [dropG (d := noRec) hi, cfGo] at h4
        have ea := cf_app hi
        have ok := recsOk_at hl hi
        generalize l.getD i noRec = r at *
        refine ⟨hi, ok, fun g => ?_, fun g => ⟨fun g2 => ?_, fun g2 => ⟨⟨ok, g⟩, ?_⟩⟩⟩
        · rw [if_pos g] at h4; exact h4
        · rw [if_neg (fun x => x g), if_pos g2] at h4; exact h4
        · rw [if_neg (fun x => x g), if_neg (by rw [g2]; simp)] at h4
          have hb := recB_le g
          exact ⟨⟨by omega, by omega⟩, ⟨by omega, by omega⟩, ((i + 1, m + (recB r).length) : Nat × Int), ⟨by show i + 1 ≤ _; omega, by show 0 ≤ m + _; omega, by show m + _ ≤ ((i + 1 : Nat) : Int) * 400000; omega, by rw [ea]; exact h4⟩, by show l.length - (i + 1) < l.length - i; omega, ⟨rfl, by show (i : Int) + 1 = ((i + 1 : Nat) : Int); omega⟩, fun k => by rw [putM_seen, ← ea]⟩
      · rw [List.drop_eq_nil_of_le (by omega), cfGo] at h4
        exact ⟨fun g => by rw [if_pos g] at h4; exact h4, fun g => by rw [if_neg g] at h4; exact h4⟩
  · cases h
attribute [push_cast] ckCheckFile
def fileR (l : List Rcd) : List UInt8 := if checkFileL l = 0 then fileB l else []
def ckFileBytes : Ck
  | [.sl n f] => some (isLs cRec n f ∧ recsOk (lsOf cRec n f), .tup [.sl (fileR (lsOf cRec n f)).length (byF (fileR (lsOf cRec n f))), .int .i64 (checkFileL (lsOf cRec n f))])
  | _ => none
theorem conFileBytes : Con pg 38 ckFileBytes := by
  have hct := (ctA_ok conCheckFile (ctF_ok conWriteV (ctN_ok _)))
  intro args q r h hq
  unfold ckFileBytes at h
  split at h
  · cases h
    rename_i n f
    refine pcall_args (args' := [.sl (lsOf cRec n f).length (lsF cRec (lsOf cRec n f))]) ⟨isLs.vle hq.1, trivial⟩ ?_
    obtain ⟨-, hl⟩ := hq
    generalize lsOf cRec n f = l at hl ⊢
    refine w38 (fun _ => false) [.frz 12] rfl hct rfl rfl ?_
    push_cast (config := { maxSteps := 10000000 })
    refine ⟨hl, fun h => by unfold fileR; rw [if_neg h]; rfl, fun h => ?_⟩
    have e0 : fileR l = fileB l := by unfold fileR; rw [if_pos h]
    rw [e0]
    obtain ⟨c1, c2, c3⟩ := file_ok h
    refine LoopW.adj ⟨hct, fol⟩ (by kernel_rfl) [.nv 5 12 1 (byF [])] (fun t : Nat × List UInt8 => [(5, .vec 12 t.2.length), (13, .sl l.length (lsF cRec l)), (14, .int .i64 l.length), (15, .int .i64 t.1)]) (fun t => [(12, .vec 1 t.2.length (byF t.2))]) (fun t => t.1 ≤ l.length ∧ t.2 ++ fileB (l.drop t.1) = fileB l) (fun t => l.length - t.1) (0, []) ?_ fun t ht => ?_
    · push_cast (config := { maxSteps := 10000000 })
      exact Nat.zero_le _
    · obtain ⟨i, o⟩ := t
      obtain ⟨h1, h2⟩ : i ≤ l.length ∧ o ++ fileB (l.drop i) = fileB l := ht
      have hlen := congrArg List.length h2
      simp only [List.length_append] at hlen
      push_cast (config := { maxSteps := 10000000 })
      refine ⟨fun hi => ?_, fun hi => ?_⟩
      · rw [dropG (d := noRec) hi, fileB] at h2
        have ok := recsOk_at hl hi
        have cr : checkRecL (l.getD i noRec) = 0 := by
          refine c1 _ ?_
          rw [List.getD_eq_getElem?_getD, List.getElem?_eq_getElem hi]; exact List.getElem_mem hi
        generalize l.getD i noRec = r at *
        exact ⟨hi, ⟨by omega, ok, cr⟩, ⟨by omega, by omega⟩, ((i + 1, o ++ recB r) : Nat × List UInt8), ⟨by show i + 1 ≤ _; omega, by show o ++ recB r ++ _ = _; rw [List.append_assoc]; exact h2⟩, by show l.length - (i + 1) < l.length - i; omega, ⟨by simp, by show (i : Int) + 1 = ((i + 1 : Nat) : Int); omega⟩, by simp, fun _ _ => rfl⟩
      · rw [List.drop_eq_nil_of_le (by omega), fileB, List.append_nil] at h2
        subst h2
        exact ⟨⟨rfl, fun _ _ => rfl⟩, h.symm⟩
  · cases h
attribute [push_cast] ckFileBytes

theorem conReadFile0 : Con pg 79 ckReadFile0 := by
  have hct := (ctA_ok conReadOne0 (ctA_ok conCheckFile (ctN_ok _)))
  intro args q r h hq
  unfold ckReadFile0 at h
  split at h
  · cases h
    rename_i n f
    refine pcall_args (args' := [.sl (bytesOf n f).length (byF (bytesOf n f))]) ⟨isBy.vle hq.1, trivial⟩ ?_
    obtain ⟨-, hn⟩ := hq
    have hl := bytesOf_len n f
    rw [← hl] at hn
    generalize bytesOf n f = B at hn ⊢
    clear hl
    refine w79 (fun _ => false) [.frz 8000, .frz 8001] rfl hct rfl rfl ?_
    push_cast (config := { maxSteps := 10000000 })
    generalize hR : readFileL B = R
    unfold readFileL at hR
    refine ⟨fun h => ?_, fun h => ?_⟩
    · rw [if_pos (by omega)] at hR
      rw [← hR]
      exact ⟨rfl, rfl, rfl, rfl⟩
    rw [if_neg (by omega)] at hR
    have hB : B.length ≤ 500000 := by omega
    refine LoopW.adj ⟨hct, fol⟩ (by kernel_rfl) [.nv 6 8000 7 (lsF cRec []), .nv 7 8001 3 (lsF cMk [])] (fun t : Nat × List Rcd × List Mk => [(0, .sl B.length (byF B)), (6, .vec 8000 t.2.1.length), (7, .vec 8001 t.2.2.length), (8, .int .i64 t.1)]) (fun t => [(8000, .vec 7 t.2.1.length (lsF cRec t.2.1)), (8001, .vec 3 t.2.2.length (lsF cMk t.2.2))]) (fun t => t.1 ≤ B.length ∧ recsOk t.2.1 ∧ t.2.1.length ≤ t.1 ∧ t.2.2.length ≤ t.1 ∧ ∃ k, B.length < t.1 + k ∧ rfGo B k t.1 t.2.1 t.2.2 = R) (fun t => B.length - t.1) (0, [], []) ?_ fun t ht => ?_
    · push_cast (config := { maxSteps := 10000000 })
      exact ⟨Nat.zero_le _, fun r hr => (by cases hr), B.length + 1, by omega, hR⟩
    · obtain ⟨i, l, m⟩ := t
      obtain ⟨i1, i2, i3, i4, k, i5, i6⟩ : i ≤ B.length ∧ recsOk l ∧ l.length ≤ i ∧ m.length ≤ i ∧ ∃ k, B.length < i + k ∧ rfGo B k i l m = R := ht
      obtain ⟨k, rfl⟩ : ∃ k', k = k' + 1 := ⟨k - 1, by omega⟩
      rw [rfGo] at i6
      push_cast (config := { maxSteps := 10000000 })
      refine ⟨fun hi => ⟨⟨hB, i1⟩, fun g => ?_, fun g => ?_⟩, fun hi => ⟨i2, fun g => ?_, fun g => ?_⟩⟩
      · rw [if_pos hi, if_neg g] at i6
        rw [← i6]
        exact ⟨rfl, rfl, rfl, rfl⟩
      · rw [if_pos hi, if_pos g] at i6
        obtain ⟨o1, o2⟩ := rdOne_fit hB i1
        obtain ⟨o3, o4, o5⟩ := o2 g
        have app1 := LsI.app (c := cRec) (f := lsF cRec l) (g := litF [cRec.enc (rdOne B i).1]) (LsI.ls l) (LsI.one (c := cRec) (a := (rdOne B i).1) rfl) rfl
        have app2 := LsI.app (c := cMk) (f := lsF cMk m) (g := litF [cMk.enc (Mk.mk (rdOne B i).1.id i (rdOne B i).2.1)]) (LsI.ls m) (LsI.one (c := cMk) (a := Mk.mk (rdOne B i).1.id i (rdOne B i).2.1) rfl) rfl
        generalize rdOne B i = X at *
        refine ⟨⟨by omega, by omega⟩, ⟨by omega, by omega⟩, ((X.2.1.toNat, l ++ [X.1], m ++ [Mk.mk X.1.id i X.2.1]) : Nat × List Rcd × List Mk), ⟨?_, fun r hr => ?_, ?_, ?_, k, ?_, i6⟩, ?_, ⟨by simp, by simp, ?_⟩, ⟨by simp, app1.2⟩, by simp, app2.2⟩
        · show X.2.1.toNat ≤ _; omega
        · rcases List.mem_append.1 hr with hr | hr
          · exact i2 r hr
          · rw [List.mem_singleton] at hr; subst hr; exact o1
        · show (l ++ [_]).length ≤ X.2.1.toNat; simp; omega
        · show (m ++ [_]).length ≤ X.2.1.toNat; simp; omega
        · show B.length < X.2.1.toNat + k; omega
        · show B.length - X.2.1.toNat < B.length - i; omega
        · show X.2.1 = ((X.2.1.toNat : Nat) : Int); omega
      · rw [if_neg hi, if_neg g] at i6
        rw [← i6]
        exact ⟨rfl, rfl, rfl, rfl⟩
      · rw [if_neg hi, if_pos g] at i6
        rw [← i6]
        exact ⟨⟨rfl, fun _ _ => rfl⟩, ⟨rfl, fun _ _ => rfl⟩, rfl, rfl⟩
  · cases h
theorem conReadFile : Con pg 39 ckReadFile := by
  have hct := (ctA_ok conReadFile0 (ctN_ok _))
  intro args q r h hq
  unfold ckReadFile at h
  split at h
  · cases h
    rename_i n f
    refine w39 (fun _ => false) [] rfl hct rfl rfl ?_
    push_cast (config := { maxSteps := 10000000 })
    exact hq
  · cases h
theorem conMarks : Con pg 40 ckMarks := by
  have hct := (ctA_ok conReadFile0 (ctN_ok _))
  intro args q r h hq
  unfold ckMarks at h
  split at h
  · cases h
    rename_i n f
    refine w40 (fun _ => false) [] rfl hct rfl rfl ?_
    push_cast (config := { maxSteps := 10000000 })
    exact hq
  · cases h

def ckBIndex : Ck
  | [.sl n f, .sl m g] => some (isBy n f ∧ isBy m g ∧ n < 4294967281 ∧ 2 ≤ m ∧ m ≤ 4611686018427387904, .int .i64 (Lib.index (bytesOf n f) (bytesOf m g)))
  | _ => none
theorem libBytes (a : List UInt8) : Lib.bytesOf (a.map fun x => (x.toNat : Int)) = a := by
  unfold Lib.bytesOf
  rw [List.map_map]
  conv => rhs; rw [← List.map_id a]
  refine List.map_congr_left fun x _ => ?_
  simp
theorem nums_byte (a : List UInt8) : ∀ x ∈ a.map (fun x => (x.toNat : Int)), 0 ≤ x ∧ x < 256 := by
  intro x hx
  obtain ⟨y, _, rfl⟩ := List.mem_map.1 hx
  have := UInt8.toNat_lt y
  omega
theorem nums_at (a : List UInt8) (i : Nat) : (a.map (fun x => (x.toNat : Int))).getD i 0 = ((a.getD i 0).toNat : Int) := by
  rw [List.getD_eq_getElem?_getD, List.getD_eq_getElem?_getD, List.getElem?_map]
  cases a[i]? <;> rfl
theorem conBIndex : Con pg 83 ckBIndex := by
  intro args q r h hq
  unfold ckBIndex at h
  split at h
  · cases h
    rename_i n f m g
    obtain ⟨q1, q2, q3, q4, q5⟩ := hq
    refine pcall_args (args' := [.sl (bytesOf n f).length (byF (bytesOf n f)), .sl (bytesOf m g).length (byF (bytesOf m g))]) ⟨q1.vle, q2.vle, trivial⟩ ?_
    rw [← bytesOf_len n f] at q3
    rw [← bytesOf_len m g] at q4 q5
    generalize bytesOf n f = a at q3 ⊢
    generalize bytesOf m g = b at q4 q5 ⊢
    refine pcall_rep (by kernel_rfl) fun S vals hw hl hr => ?_
    obtain ⟨u, v, rfl⟩ := vals2 hl
    obtain ⟨a1, c1, rfl, k1, k2, k3⟩ := inv_bytes (b := a) (by simpa using hr 0 (by simp))
    obtain ⟨a2, c2, rfl, l1, l2, l3⟩ := inv_bytes (b := b) (by simpa using hr 1 (by simp))
    obtain ⟨mx, hmx⟩ := maxLen hw
    cases a2 with
    | none => have := l2 rfl; omega
    | some A2 =>
      cases a1 with
      | none =>
        have h0 := k2 rfl
        refine (Any.bytes_Index_longer (Tryz.lays185) none (some A2) a.length c1 b.length c2 S.w (by omega) (by omega) (by omega)).mono fun e w' h => ?_
        obtain ⟨he, rfl⟩ := h
        refine ⟨_, he, grow_eq rfl, fun γ imm _ _ => .pure ?_⟩
        have : a = [] := List.length_eq_zero_iff.1 h0
        subst this
        have e : Lib.index [] b = -1 := by
          rw [Lib.index]
          match b, q4 with
          | x :: t, _ => rfl
        rw [e]; exact .int _ _
      | some A1 =>
        refine (Any.bytes_Index_at (Tryz.lays185) A1 A2 a.length c1 b.length c2 (a.map fun x => (x.toNat : Int)) (b.map fun x => (x.toNat : Int)) mx S.w (by simp) (by simp) (nums_byte a) (nums_byte b) (fun i hi => by rw [nums_at]; exact k3 A1 rfl i hi) (fun i hi => by rw [nums_at]; exact l3 A2 rfl i hi) k1 q3 (by omega) hmx).mono fun e w' h => ?_
        obtain ⟨he, n, rfl⟩ := h
        rw [libBytes, libBytes] at he
        exact ⟨_, he, grow_drewN _ _, fun γ imm _ _ => .pure (.int _ _)⟩
  · cases h
attribute [push_cast] ckBIndex

def bareL (s : List UInt8) : Bool := s.all fun c => decide (c ≠ 13) && decide (c ≠ 10)
theorem crlf_pre (c : UInt8) (t : List UInt8) : crlf.isPrefixOf (c :: t) = true ↔ c = 13 ∧ t.getD 0 0 = 10 ∧ 0 < t.length := by
  cases t with
  | nil => simp [crlf, List.isPrefixOf]
  | cons d t => simp [crlf, List.isPrefixOf]; exact ⟨fun h => ⟨h.1.symm, h.2.symm⟩, fun h => ⟨h.1.symm, h.2.symm⟩⟩
theorem lineS_idx : ∀ r : List UInt8, lineS r = if 0 ≤ Lib.index r crlf ∧ bareL (r.take (Lib.index r crlf).toNat) = true then some (r.take (Lib.index r crlf).toNat) else none
  | [] => by
    have e : Lib.index [] crlf = -1 := by rw [Lib.index]; rfl
    rw [e, if_neg (by omega)]; rfl
  | c :: t => by
    have ih := lineS_idx t
    have hp := crlf_pre c t
    have hge := Lib.index_ge t crlf
    rw [lineS, Lib.index]
    by_cases h : crlf.isPrefixOf (c :: t) = true
    · obtain ⟨h1, h2, h3⟩ := hp.1 h
      rw [if_pos h, if_pos h1, if_pos ⟨h2, h3⟩, if_pos ⟨by omega, rfl⟩]
      rfl
    · rw [if_neg h]
      by_cases hm : (Lib.index t crlf == -1) = true
      · rw [if_pos hm]
        rw [show (if 0 ≤ (-1 : Int) ∧ bareL ((c :: t).take (-1 : Int).toNat) = true then some ((c :: t).take (-1 : Int).toNat) else none) = none from if_neg (fun x => by have := x.1; omega)]
        rw [beq_iff_eq] at hm
        rw [if_neg (fun x => by have := x.1; omega)] at ih
        by_cases h1 : c = 13
        · rw [if_pos h1, if_neg (fun x => h (hp.2 ⟨h1, x.1, x.2⟩))]
        rw [if_neg h1, ih]
        by_cases h2 : c = 10
        · rw [if_pos h2]
        · rw [if_neg h2]; rfl
      · rw [if_neg hm]
        have hn : Lib.index t crlf ≠ -1 := fun e => hm (beq_iff_eq.2 e)
        rw [show (Lib.index t crlf + 1).toNat = (Lib.index t crlf).toNat + 1 by omega, List.take_succ_cons]
        by_cases h1 : c = 13
        · rw [if_pos h1, if_neg (fun x => h (hp.2 ⟨h1, x.1, x.2⟩)), if_neg]
          rintro ⟨_, x⟩
          unfold bareL at x
          rw [List.all_cons, Bool.and_eq_true] at x
          subst h1
          exact absurd x.1 (by decide)
        rw [if_neg h1]
        by_cases h2 : c = 10
        · rw [if_pos h2, if_neg]
          rintro ⟨_, x⟩
          unfold bareL at x
          rw [List.all_cons, Bool.and_eq_true] at x
          subst h2
          exact absurd x.1 (by decide)
        rw [if_neg h2, ih]
        have eb : bareL (c :: t.take (Lib.index t crlf).toNat) = bareL (t.take (Lib.index t crlf).toNat) := by
          unfold bareL
          rw [List.all_cons, decide_eq_true h1, decide_eq_true h2]; rfl
        rw [eb]
        by_cases hb : bareL (t.take (Lib.index t crlf).toNat) = true
        · rw [if_pos ⟨by omega, hb⟩, if_pos ⟨by omega, hb⟩]; rfl
        · rw [if_neg (fun x => hb x.2), if_neg (fun x => hb x.2)]; rfl

theorem idx_none (c : UInt8) : ∀ s : List UInt8, decide (Lib.indexByte s c < 0) = s.all fun x => decide (x ≠ c)
  | [] => rfl
  | x :: t => by
    have ih := idx_none c t
    have hge := Lib.indexByte_ge t c
    unfold Lib.indexByte
    rw [List.all_cons, ← ih]
    by_cases h : x = c
    · subst h; simp
    · by_cases h1 : Lib.indexByte t c = -1
      · simp [h, h1]
      · have : ¬ Lib.indexByte t c < 0 := by omega
        have h2 : ¬ Lib.indexByte t c + 1 < 0 := by omega
        simp [h, h1, this, h2]
theorem all_and (s : List UInt8) (p q : UInt8 → Bool) : (s.all p && s.all q) = s.all fun c => p c && q c := by
  induction s with
  | nil => rfl
  | cons x t ih => simp only [List.all_cons, ← ih]; cases p x <;> cases q x <;> simp
def ckBare : Ck
  | [.str s] => some (s.length ≤ 4611686018427387904, .bool (bareL s))
  | _ => none
attribute [push_cast] ckBare
/-- where the line from a place on ends, it, and the place behind it -/
def laK (b : List UInt8) (a : Nat) : Int := Lib.index (b.drop a) crlf
def laS (b : List UInt8) (a : Nat) : List UInt8 := if laK b a < 0 then b.drop a else (b.drop a).take (laK b a).toNat
def laN (b : List UInt8) (a : Nat) : Int := if laK b a < 0 then -1 else a + laK b a + 2
theorem idx_fit (s : List UInt8) : Lib.index s crlf = -1 ∨ (0 ≤ Lib.index s crlf ∧ Lib.index s crlf + 2 ≤ s.length) := by
  rcases Lib.index_spec s crlf with ⟨h, _⟩ | ⟨i, h1, h2, h3, _⟩
  · exact .inl h
  · refine .inr ⟨by omega, ?_⟩
    unfold Lib.occAt at h3
    obtain ⟨t, ht⟩ := List.isPrefixOf_iff_prefix.1 h3
    have := congrArg List.length ht
    simp only [List.length_append, List.length_drop] at this
    have hl : crlf.length = 2 := rfl
    omega
theorem laK_fit (b : List UInt8) (a : Nat) : laK b a = -1 ∨ (0 ≤ laK b a ∧ laK b a + 2 ≤ ((b.length - a : Nat) : Int)) := by
  have := idx_fit (b.drop a)
  rw [List.length_drop] at this
  exact this
theorem la_line (b : List UInt8) (a : Nat) : (lnB b a = true ↔ 0 ≤ laN b a ∧ bareL (laS b a) = true) ∧ (lnB b a = true → lnS b a = laS b a ∧ (lnN b a : Int) = laN b a) := by
  have e := lineS_idx (b.drop a)
  change lineS (b.drop a) = if 0 ≤ laK b a ∧ bareL ((b.drop a).take (laK b a).toNat) = true then some ((b.drop a).take (laK b a).toNat) else none at e
  have hk := laK_fit b a
  unfold lnB lnS lnN laS laN
  by_cases h0 : laK b a < 0
  · rw [if_pos h0, if_pos h0]
    rw [if_neg (fun x => by have := x.1; omega)] at e
    rw [e]
    exact ⟨⟨fun h => (by cases h), fun h => absurd h.1 (by omega)⟩, fun h => (by cases h)⟩
  · rw [if_neg h0, if_neg h0]
    by_cases hb : bareL ((b.drop a).take (laK b a).toNat) = true
    · rw [if_pos ⟨by omega, hb⟩] at e
      rw [e]
      refine ⟨⟨fun _ => ⟨by omega, hb⟩, fun _ => rfl⟩, fun _ => ⟨rfl, ?_⟩⟩
      have hl : ((b.drop a).take (laK b a).toNat).length = (laK b a).toNat := by rw [List.length_take, List.length_drop]; omega
      simp only [hl]
      omega
    · rw [if_neg (fun x => hb x.2)] at e
      rw [e]
      exact ⟨⟨fun h => (by cases h), fun h => absurd h.2 hb⟩, fun h => (by cases h)⟩
theorem la_le (b : List UInt8) {a : Nat} (ha : a ≤ b.length) : (laS b a).length ≤ b.length ∧ laN b a ≤ b.length ∧ (0 ≤ laN b a → (a : Int) + 2 ≤ laN b a) ∧ -1 ≤ laN b a := by
  have hk := laK_fit b a
  unfold laS laN
  split
  · rw [List.length_drop]; omega
  · rw [List.length_take, List.length_drop]; omega
def ckLineAt : Ck
  | [.sl n f, .int .i64 a] => some (isBy n f ∧ 0 ≤ a ∧ a ≤ n ∧ n ≤ 4000000, .tup [.str (laS (bytesOf n f) a.toNat), .int .i64 (laN (bytesOf n f) a.toNat)])
  | _ => none
attribute [push_cast] ckLineAt
/- the reference's reader -/
def l6S (B : List UInt8) (a : Nat) : List UInt8 := if laK B a < 0 then [] else (B.drop a).take (laK B a).toNat
theorem l6S_le {B : List UInt8} {a : Nat} (ha : a ≤ B.length) : (l6S B a).length ≤ B.length := by
  unfold l6S
  split
  · simp
  · rw [List.length_take, List.length_drop]; omega
theorem l6S_eq {B : List UInt8} {a : Nat} (h : lnB B a = true) : l6S B a = lnS B a ∧ ((lnS B a).length : Int) + a + 2 = lnN B a := by
  obtain ⟨l1, l2⟩ := la_line B a
  have h1 := l1.1 h
  have h2 := l2 h
  unfold laS laN at *
  unfold l6S
  by_cases hk : laK B a < 0
  · rw [if_pos hk] at h1; omega
  · rw [if_neg hk] at h1 h2 ⊢
    refine ⟨h2.1.symm, ?_⟩
    have hf := laK_fit B a
    have : (lnS B a).length = (laK B a).toNat := by
      rw [h2.1, List.length_take, List.length_drop]; omega
    rw [if_neg hk] at h2
    omega
def ckLn6K : List V → List Blk → Option (Prop × V × List Blk)
  | [.ptr _ 0], [.cells [.sl n f, .int .i64 a, .int .i64 z]] => some (isBy n f ∧ n ≤ 4000000 ∧ 0 ≤ a ∧ a ≤ n, .tup [.str (l6S (bytesOf n f) a.toNat), .bool (lnB (bytesOf n f) a.toNat)], [.cells [.sl n f, .int .i64 a, .int .i64 z]])
  | _, _ => none
def ckLn6 : Cf := ⟨fun | [.ptr i _] => [i] | _ => [], ckLn6K⟩
theorem conLn6 : FCon pg 158 ckLn6 := by
  have hct := (ctA_ok conBIndex (ctA_ok conIndexByte (ctN_ok _)))
  intro args bs q r bs' h hq
  replace h : ckLn6K args bs = some (q, r, bs') := h
  unfold ckLn6K at h
  split at h
  · cases h
    rename_i i n f a z
    refine ⟨rfl, by first | exact Nat.le_refl _ | exact Nat.zero_le _, ?_⟩
    obtain ⟨h1, h2, h3, h4⟩ := hq
    show FCall pg 158 [.ptr (i + 9000) 0] [(i + 9000, .cells [.sl n f, .int .i64 a, .int .i64 z])] (.tup [.str (l6S (bytesOf n f) a.toNat), .bool (lnB (bytesOf n f) a.toNat)]) [(i + 9000, .cells [.sl n f, .int .i64 a, .int .i64 z])]
    refine fw158 (fun d => decide (d = 15)) [] rfl hct rfl (by simp) (by simp [hlIn, idsIn, Blk.menIn, V.menInL, V.menIn, V.flat, byF, lsF]) (by simp [V.menIn, V.menInL, idsIn]) ?_
    push_cast (config := { maxSteps := 10000000 })
    obtain ⟨a, rfl⟩ : ∃ k : Nat, a = k := ⟨a.toNat, by omega⟩
    rw [Int.toNat_natCast]
    have hb := bytesOf_len n f
    have hs := ByI.sh h1 (l := a) (k := n - a) (by omega)
    rw [List.take_of_length_le (by rw [List.length_drop]; omega)] at hs
    have hcr : ByI 2 (fun i => V.kill 15 (litF [V.int IntKind.u8 13, V.int IntKind.u8 10] i)) crlf := ⟨rfl, fun i hi => by
      rcases (by omega : i = 0 ∨ i = 1) with rfl | rfl <;> rfl⟩
    rw [hs.bytes, hcr.bytes]
    have eK : Lib.index ((bytesOf n f).drop a) crlf = laK (bytesOf n f) a := rfl
    rw [eK]
    obtain ⟨l1, l2⟩ := la_line (bytesOf n f) a
    have hf := laK_fit (bytesOf n f) a
    rw [hb] at hf
    have f0 : 0 < n → (f 0).flat.length = 1 := fun h => by rw [h1.2 0 h]; rfl
    refine ⟨⟨⟨by omega, by omega⟩, by omega, f0⟩, ⟨hs.is, hcr.is, by omega⟩, hcr.pure, fun h => ⟨?_, ?_⟩, fun h => ?_⟩
    · unfold l6S; rw [if_pos h]
    · cases hB : lnB (bytesOf n f) a with
      | false => rfl
      | true =>
        have := (l1.1 hB).1
        unfold laN at this
        rw [if_pos h] at this
        omega
    · have hk := ByI.sh h1 (l := a) (k := (laK (bytesOf n f) a).toNat) (by omega)
      have e1 : ((a : Int) + laK (bytesOf n f) a).toNat - a = (laK (bytesOf n f) a).toNat := by omega
      rw [e1, hk.bytes]
      refine ⟨⟨by omega, by omega⟩, ⟨⟨by omega, by omega⟩, ⟨by omega, by omega⟩, by omega, f0⟩, hk.bytesP, ?_, ?_⟩
      · unfold l6S; rw [if_neg h]
      · rw [idx_none, idx_none, all_and]
        unfold laS laN at l1
        rw [if_neg h, if_neg h] at l1
        have e2 : (((bytesOf n f).drop a).take (laK (bytesOf n f) a).toNat).all (fun c => decide (c ≠ 10) && decide (c ≠ 13)) = bareL (((bytesOf n f).drop a).take (laK (bytesOf n f) a).toNat) := by
          unfold bareL
          congr 1
          funext c
          exact Bool.and_comm _ _
        rw [e2, Bool.eq_iff_iff, l1]
        exact ⟨fun x => ⟨by omega, x⟩, fun x => x.2⟩
  · cases h
attribute [push_cast] ckLn6K
@[push_cast] theorem ln6_ids (i o : Nat) : ckLn6.ids [.ptr i o] = [i] := rfl
@[push_cast] theorem ln6_k (i n : Nat) (f : Nat → V) (a z : Int) : ckLn6.k [.ptr i 0] [.cells [.sl n f, .int .i64 a, .int .i64 z]] = some (isBy n f ∧ n ≤ 4000000 ∧ 0 ≤ a ∧ a ≤ n, .tup [.str (l6S (bytesOf n f) a.toNat), .bool (lnB (bytesOf n f) a.toNat)], [.cells [.sl n f, .int .i64 a, .int .i64 z]]) := rfl
def stZ (a z : Int) : Int := if z < 0 then a else z
def ckStopK : List V → List Blk → Option (Prop × V × List Blk)
  | [.ptr _ 0], [.cells [.sl n f, .int .i64 a, .int .i64 z]] => some (True, .tup [], [.cells [.sl n f, .int .i64 a, .int .i64 (stZ a z)]])
  | _, _ => none
def ckStop : Cf := ⟨fun | [.ptr i _] => [i] | _ => [], ckStopK⟩
theorem conStop : FCon pg 151 ckStop := by
  have hct := ctN_ok pg
  intro args bs q r bs' h hq
  replace h : ckStopK args bs = some (q, r, bs') := h
  unfold ckStopK at h
  split at h
  · cases h
    rename_i i n f a z
    refine ⟨rfl, by first | exact Nat.le_refl _ | exact Nat.zero_le _, ?_⟩
    show FCall pg 151 [.ptr (i + 9000) 0] [(i + 9000, .cells [.sl n f, .int .i64 a, .int .i64 z])] (.tup []) [(i + 9000, .cells [.sl n f, .int .i64 a, .int .i64 (stZ a z)])]
    refine fw151 (fun _ => false) [] rfl hct rfl (by simp) (by simp [hlIn, idsIn, Blk.menIn, V.menInL, V.menIn, V.flat, byF, lsF]) (by simp [V.menIn, V.menInL, idsIn]) ?_
    push_cast (config := { maxSteps := 10000000 })
    unfold stZ
    exact ⟨fun h => by rw [if_pos h], fun h => by rw [if_neg h]⟩
  · cases h
attribute [push_cast] ckStopK
@[push_cast] theorem stop_ids (i o : Nat) : ckStop.ids [.ptr i o] = [i] := rfl
@[push_cast] theorem stop_k (i n : Nat) (f : Nat → V) (a z : Int) : ckStop.k [.ptr i 0] [.cells [.sl n f, .int .i64 a, .int .i64 z]] = some (True, .tup [], [.cells [.sl n f, .int .i64 a, .int .i64 (stZ a z)]]) := rfl
def ckNextK : List V → List Blk → Option (Prop × V × List Blk)
  | [.ptr _ 0, .str s], [.cells [.sl n f, .int .i64 a, .int .i64 z]] => some (s.length ≤ 4000000000 ∧ 0 ≤ a ∧ a ≤ 4000000000, .tup [], [.cells [.sl n f, .int .i64 (a + (s.length + 2)), .int .i64 z]])
  | _, _ => none
def ckNext : Cf := ⟨fun | [.ptr i _, _] => [i] | _ => [], ckNextK⟩
theorem conNext : FCon pg 150 ckNext := by
  have hct := ctN_ok pg
  intro args bs q r bs' h hq
  replace h : ckNextK args bs = some (q, r, bs') := h
  unfold ckNextK at h
  split at h
  · cases h
    rename_i i s n f a z
    refine ⟨rfl, by first | exact Nat.le_refl _ | exact Nat.zero_le _, ?_⟩
    show FCall pg 150 [.ptr (i + 9000) 0, .str s] [(i + 9000, .cells [.sl n f, .int .i64 a, .int .i64 z])] (.tup []) [(i + 9000, .cells [.sl n f, .int .i64 (a + (s.length + 2)), .int .i64 z])]
    refine fw150 (fun _ => false) [] rfl hct rfl (by simp) (by simp [hlIn, idsIn, Blk.menIn, V.menInL, V.menIn, V.flat, byF, lsF]) (by simp [V.menIn, V.menInL, idsIn]) ?_
    push_cast (config := { maxSteps := 10000000 })
    exact ⟨⟨by omega, by omega⟩, by omega, by omega⟩
  · cases h
attribute [push_cast] ckNextK
@[push_cast] theorem next_ids (i o : Nat) (x : V) : ckNext.ids [.ptr i o, x] = [i] := rfl
@[push_cast] theorem next_k (i n : Nat) (f : Nat → V) (a z : Int) (s : List UInt8) : ckNext.k [.ptr i 0, .str s] [.cells [.sl n f, .int .i64 a, .int .i64 z]] = some (s.length ≤ 4000000000 ∧ 0 ≤ a ∧ a ≤ 4000000000, .tup [], [.cells [.sl n f, .int .i64 (a + (s.length + 2)), .int .i64 z]]) := rfl
def ckBeginsK : List V → List Blk → Option (Prop × V × List Blk)
  | [.ptr _ 0, .str w], [.cells [.sl n f, .int .i64 a, .int .i64 z]] => some (isBy n f ∧ n ≤ 4000000 ∧ w.length ≤ 1000 ∧ 0 ≤ a ∧ a ≤ n, .bool (hasPre ((bytesOf n f).drop a.toNat) w), [.cells [.sl n f, .int .i64 a, .int .i64 z]])
  | _, _ => none
def ckBegins : Cf := ⟨fun | [.ptr i _, _] => [i] | _ => [], ckBeginsK⟩
theorem conBegins : FCon pg 149 ckBegins := by
  have hct := (ctA_ok conBHasPrefix (ctN_ok _))
  intro args bs q r bs' h hq
  replace h : ckBeginsK args bs = some (q, r, bs') := h
  unfold ckBeginsK at h
  split at h
  · cases h
    rename_i i w n f a z
    refine ⟨rfl, by first | exact Nat.le_refl _ | exact Nat.zero_le _, ?_⟩
    obtain ⟨h1, h2, h3, h4, h5⟩ := hq
    show FCall pg 149 [.ptr (i + 9000) 0, .str w] [(i + 9000, .cells [.sl n f, .int .i64 a, .int .i64 z])] (.bool (hasPre ((bytesOf n f).drop a.toNat) w)) [(i + 9000, .cells [.sl n f, .int .i64 a, .int .i64 z])]
    refine fw149 (fun _ => false) [] rfl hct rfl (by simp) (by simp [hlIn, idsIn, Blk.menIn, V.menInL, V.menIn, V.flat, byF, lsF]) (by simp [V.menIn, V.menInL, idsIn]) ?_
    push_cast (config := { maxSteps := 10000000 })
    obtain ⟨a, rfl⟩ : ∃ k : Nat, a = k := ⟨a.toNat, by omega⟩
    rw [Int.toNat_natCast]
    have hb := bytesOf_len n f
    have hs := ByI.sh h1 (l := a) (k := n - a) (by omega)
    rw [List.take_of_length_le (by rw [List.length_drop]; omega)] at hs
    rw [hs.bytes]
    refine ⟨⟨⟨by omega, by omega⟩, by omega, fun h => by rw [h1.2 0 h]; rfl⟩, ⟨hs.is, by omega, by omega⟩, ?_⟩
    unfold hasPre
    rw [List.length_drop, hb]
  · cases h
attribute [push_cast] ckBeginsK
@[push_cast] theorem begins_ids (i o : Nat) (x : V) : ckBegins.ids [.ptr i o, x] = [i] := rfl
@[push_cast] theorem begins_k (i n : Nat) (f : Nat → V) (a z : Int) (w : List UInt8) : ckBegins.k [.ptr i 0, .str w] [.cells [.sl n f, .int .i64 a, .int .i64 z]] = some (isBy n f ∧ n ≤ 4000000 ∧ w.length ≤ 1000 ∧ 0 ≤ a ∧ a ≤ n, .bool (hasPre ((bytesOf n f).drop a.toNat) w), [.cells [.sl n f, .int .i64 a, .int .i64 z]]) := rfl
def sS (B : List UInt8) (a : Nat) (z : Int) (w : List UInt8) : List UInt8 := if 0 ≤ z then [] else if lineOk B a w = true then lineV B a w else []
def sZ (B : List UInt8) (a : Nat) (z : Int) (w : List UInt8) : Int := if 0 ≤ z then z else if lineOk B a w = true then z else a
def ckSaidK : List V → List Blk → Option (Prop × V × List Blk)
  | [.ptr _ 0, .str w], [.cells [.sl n f, .int .i64 a, .int .i64 z]] => some (isBy n f ∧ n ≤ 4000000 ∧ w.length ≤ 1000 ∧ 0 ≤ a ∧ (z < 0 → a ≤ n), .str (sS (bytesOf n f) a.toNat z w), [.cells [.sl n f, .int .i64 a, .int .i64 (sZ (bytesOf n f) a.toNat z w)]])
  | _, _ => none
def ckSaid : Cf := ⟨fun | [.ptr i _, _] => [i] | _ => [], ckSaidK⟩
theorem conSaid : FCon pg 153 ckSaid := by
  have hct := (ctF_ok conLn6 (ctF_ok conStop (ctA_ok conHasPre (ctN_ok _))))
  intro args bs q r bs' h hq
  replace h : ckSaidK args bs = some (q, r, bs') := h
  unfold ckSaidK at h
  split at h
  · cases h
    rename_i i w n f a z
    refine ⟨rfl, by first | exact Nat.le_refl _ | exact Nat.zero_le _, ?_⟩
    obtain ⟨h1, h2, h3, h4, h5⟩ := hq
    show FCall pg 153 [.ptr (i + 9000) 0, .str w] [(i + 9000, .cells [.sl n f, .int .i64 a, .int .i64 z])] (.str (sS (bytesOf n f) a.toNat z w)) [(i + 9000, .cells [.sl n f, .int .i64 a, .int .i64 (sZ (bytesOf n f) a.toNat z w)])]
    refine fw153 (fun _ => false) [] rfl hct rfl (by simp) (by simp [hlIn, idsIn, Blk.menIn, V.menInL, V.menIn, V.flat, byF, lsF]) (by simp [V.menIn, V.menInL, idsIn]) ?_
    push_cast (config := { maxSteps := 10000000 })
    have hb := bytesOf_len n f
    unfold sS sZ lineOk lineV
    refine ⟨fun h => by rw [if_pos h, if_pos h]; exact ⟨rfl, rfl⟩, fun h => ?_⟩
    rw [if_neg h, if_neg h]
    have ha : a.toNat ≤ (bytesOf n f).length := by omega
    have hl := l6S_le ha
    refine ⟨⟨h1, h2, h4, by omega⟩, fun g => ⟨g, by omega⟩, fun g => ⟨g, by omega⟩, fun g => ?_, fun g => ?_⟩
    · have hn : (lnB (bytesOf n f) a.toNat && hasPre (lnS (bytesOf n f) a.toNat) (w ++ [58, 32])) = false := by
        cases hB : lnB (bytesOf n f) a.toNat with
        | false => rfl
        | true =>
          rw [(l6S_eq hB).1] at g
          rcases g with g | g
          · rw [hB] at g; cases g
          · rw [g]; rfl
      rw [hn]
      refine ⟨rfl, ?_⟩
      unfold stZ
      rw [if_pos (by omega), if_neg (by simp)]
      omega
    · have e := (l6S_eq g.1).1
      rw [e] at g hl ⊢
      rw [g.1, g.2]
      obtain ⟨r, hr⟩ := hasPre_iff.1 g.2
      have hlen := congrArg List.length hr
      simp only [List.length_append, List.length_cons, List.length_nil] at hlen
      exact ⟨⟨by omega, by omega⟩, ⟨⟨by omega, by omega⟩, by omega⟩, rfl, rfl⟩
  · cases h
attribute [push_cast] ckSaidK
@[push_cast] theorem said_ids (i o : Nat) (x : V) : ckSaid.ids [.ptr i o, x] = [i] := rfl
@[push_cast] theorem said_k (i n : Nat) (f : Nat → V) (a z : Int) (w : List UInt8) : ckSaid.k [.ptr i 0, .str w] [.cells [.sl n f, .int .i64 a, .int .i64 z]] = some (isBy n f ∧ n ≤ 4000000 ∧ w.length ≤ 1000 ∧ 0 ≤ a ∧ (z < 0 → a ≤ n), .str (sS (bytesOf n f) a.toNat z w), [.cells [.sl n f, .int .i64 a, .int .i64 (sZ (bytesOf n f) a.toNat z w)]]) := rfl
def tA (B : List UInt8) (a : Nat) (z : Int) (w : List UInt8) : Nat := if 0 ≤ z then a else if lineOk B a w = true then lnN B a else a
def ckToldK : List V → List Blk → Option (Prop × V × List Blk)
  | [.ptr _ 0, .str w], [.cells [.sl n f, .int .i64 a, .int .i64 z]] => some (isBy n f ∧ n ≤ 4000000 ∧ w.length ≤ 1000 ∧ 0 ≤ a ∧ a ≤ 8000000 ∧ (z < 0 → a ≤ n), .str (sS (bytesOf n f) a.toNat z w), [.cells [.sl n f, .int .i64 (tA (bytesOf n f) a.toNat z w), .int .i64 (sZ (bytesOf n f) a.toNat z w)]])
  | _, _ => none
def ckTold : Cf := ⟨fun | [.ptr i _, _] => [i] | _ => [], ckToldK⟩
theorem conTold : FCon pg 152 ckTold := by
  have hct := (ctF_ok conSaid (ctF_ok conNext (ctN_ok _)))
  intro args bs q r bs' h hq
  replace h : ckToldK args bs = some (q, r, bs') := h
  unfold ckToldK at h
  split at h
  · cases h
    rename_i i w n f a z
    refine ⟨rfl, by first | exact Nat.le_refl _ | exact Nat.zero_le _, ?_⟩
    obtain ⟨h1, h2, h3, h4, h40, h5⟩ := hq
    show FCall pg 152 [.ptr (i + 9000) 0, .str w] [(i + 9000, .cells [.sl n f, .int .i64 a, .int .i64 z])] (.str (sS (bytesOf n f) a.toNat z w)) [(i + 9000, .cells [.sl n f, .int .i64 (tA (bytesOf n f) a.toNat z w), .int .i64 (sZ (bytesOf n f) a.toNat z w)])]
    refine fw152 (fun _ => false) [] rfl hct rfl (by simp) (by simp [hlIn, idsIn, Blk.menIn, V.menInL, V.menIn, V.flat, byF, lsF]) (by simp [V.menIn, V.menInL, idsIn]) ?_
    push_cast (config := { maxSteps := 10000000 })
    have hl : (sS (bytesOf n f) a.toNat z w).length ≤ n := by
      unfold sS
      split
      · simp
      split
      · have := lineV_le (B := bytesOf n f) (a := a.toNat) w (by rw [bytesOf_len]; omega)
        rw [bytesOf_len] at this; exact this
      · simp
    refine ⟨⟨h1, h2, h3, h4, h5⟩, fun h => ⟨by omega, by omega, ⟨by omega, by omega, by omega⟩, ?_⟩, fun h => ?_⟩
    · unfold sZ at h
      unfold tA sS
      by_cases hz : 0 ≤ z
      · rw [if_pos hz] at h; omega
      · rw [if_neg hz] at h ⊢
        rw [if_neg hz]
        by_cases hk : lineOk (bytesOf n f) a.toNat w = true
        · rw [if_pos hk, if_pos hk]
          unfold lineOk at hk
          simp only [Bool.and_eq_true] at hk
          have := (l6S_eq hk.1).2
          obtain ⟨r, hr⟩ := hasPre_iff.1 hk.2
          have hlen := congrArg List.length hr
          simp only [List.length_append, List.length_cons, List.length_nil] at hlen
          unfold lineV
          rw [List.length_drop]
          omega
        · rw [if_neg hk] at h; omega
    · unfold sZ at h
      unfold tA
      by_cases hz : 0 ≤ z
      · rw [if_pos hz]; omega
      · rw [if_neg hz] at h ⊢
        by_cases hk : lineOk (bytesOf n f) a.toNat w = true
        · rw [if_pos hk] at h; omega
        · rw [if_neg hk]; omega
  · cases h
attribute [push_cast] ckToldK
@[push_cast] theorem told_ids (i o : Nat) (x : V) : ckTold.ids [.ptr i o, x] = [i] := rfl
@[push_cast] theorem told_k (i n : Nat) (f : Nat → V) (a z : Int) (w : List UInt8) : ckTold.k [.ptr i 0, .str w] [.cells [.sl n f, .int .i64 a, .int .i64 z]] = some (isBy n f ∧ n ≤ 4000000 ∧ w.length ≤ 1000 ∧ 0 ≤ a ∧ a ≤ 8000000 ∧ (z < 0 → a ≤ n), .str (sS (bytesOf n f) a.toNat z w), [.cells [.sl n f, .int .i64 (tA (bytesOf n f) a.toNat z w), .int .i64 (sZ (bytesOf n f) a.toNat z w)]]) := rfl
def ckKindOf : Ck
  | [.str v] => some (True, .int .i64 (kindI v))
  | _ => none
theorem conKindOf : Con pg 154 ckKindOf := by
  have hct := (ctA_ok conKindW (ctN_ok _))
  intro args q r h hq
  unfold ckKindOf at h
  split at h
  · cases h
    rename_i v
    refine w154 (fun _ => false) [] rfl hct rfl rfl ?_
    push_cast (config := { maxSteps := 10000000 })
    refine LoopW.adj ⟨hct, fol⟩ (by kernel_rfl) [] (fun k : Nat => [(0, .str v), (3, .int .i64 (k + 1 : Nat))]) (fun _ => []) (fun k => k ≤ 5 ∧ ∀ j, j < k → ¬ v = kindW.getD j []) (fun k => 5 - k) 0 ?_ fun k hk => ?_
    · push_cast (config := { maxSteps := 10000000 })
      first | done | omega
    · push_cast (config := { maxSteps := 10000000 })
      obtain ⟨k1, k2⟩ := hk
      have hl : kindW.length = 5 := rfl
      have e : ((k : Int) + 1 - 1).toNat = k := by omega
      rw [e]
      refine ⟨fun h => ⟨⟨by omega, by omega⟩, fun g => ?_, fun g => ⟨⟨by omega, by omega⟩, k + 1, ⟨by omega, fun j hj => ?_⟩, by omega, by omega⟩⟩, fun h => ?_⟩
      · unfold kindI
        rw [idxL_at (l := kindW) (i := k) (by omega) g.symm k2]
      · by_cases e : j = k
        · subst e
          exact fun x => g x.symm
        · exact k2 j (by omega)
      · unfold kindI
        have hk5 : k = 5 := by omega
        subst hk5
        rw [idxL_no (l := kindW) fun j hj => k2 j (by omega)]; rfl
  · cases h
attribute [push_cast] ckKindOf
def ckPlainNum : Ck
  | [.str s] => some (s.length ≤ 4611686018427387900, .tup [.int .i64 (if digL s 9 = true then (natOf s : Int) else 0), .bool (digL s 9)])
  | _ => none
theorem pn_no {s : List UInt8} (h : (s = [] ∨ 9 < (s.length : Int)) ∨ 1 < (s.length : Int) ∧ ((s.getD 0 0).toNat : Int) = 48) : digL s 9 = false := by
  unfold digL
  rcases h with (rfl | h) | ⟨h1, h2⟩
  · rfl
  · rw [show decide ((s.length : Int) ≤ 9) = false from decide_eq_false (by omega)]; simp
  · have e1 : decide (s.getD 0 0 ≠ 48) = false := decide_eq_false fun x => x (by
      rw [u8_eq]; exact h2)
    have e2 : (s == [48]) = false := by
      rw [Bool.eq_false_iff]
      intro x
      rw [beq_iff_eq] at x
      subst x
      simp at h1
    rw [e1, e2]; simp
theorem pn_yes {s : List UInt8} (h : (¬ s = [] ∧ ¬ 9 < (s.length : Int)) ∧ (1 < (s.length : Int) → ¬ ((s.getD 0 0).toNat : Int) = 48)) (ha : s.all isDg = true) : digL s 9 = true := by
  unfold digL
  obtain ⟨⟨h1, h2⟩, h3⟩ := h
  have hp : 1 ≤ s.length := by
    cases s with
    | nil => exact absurd rfl h1
    | cons a t => simp
  rw [ha, decide_eq_true hp, decide_eq_true (show (s.length : Int) ≤ 9 by omega)]
  simp only [Bool.and_self, Bool.true_and, Bool.or_eq_true, decide_eq_true_eq, beq_iff_eq]
  by_cases e : s.getD 0 0 = 48
  · right
    have hl : s.length = 1 := by
      rcases Nat.lt_or_ge 1 s.length with h | h
      · exact absurd ((u8_eq _ _).1 e) (h3 (by omega))
      · omega
    match s, hl with
    | [c], _ => simpa using e
  · left; exact e
theorem conPlainNum : Con pg 135 ckPlainNum := by
  have hct := (ctA_ok conAtoi (ctN_ok _))
  intro args q r h hq
  unfold ckPlainNum at h
  split at h
  · cases h
    rename_i s
    refine w135 (fun _ => false) [] rfl hct rfl rfl ?_
    push_cast (config := { maxSteps := 10000000 })
    refine ⟨fun h => ⟨h, by omega⟩, fun h => ⟨h, fun h' => ⟨h, h'⟩⟩, fun h => by rw [pn_no h]; exact ⟨rfl, rfl⟩, fun h => ?_⟩
    refine LoopW.adj ⟨hct, fol⟩ (by kernel_rfl) [] (fun i : Nat => [(0, .str s), (4, .int .i64 i)]) (fun _ => []) (fun i => i ≤ s.length ∧ ∀ j, j < i → isDg (s.getD j 0) = true) (fun i => s.length - i) 0 ?_ fun i hi => ?_
    · push_cast (config := { maxSteps := 10000000 })
      exact Nat.zero_le _
    · push_cast (config := { maxSteps := 10000000 })
      obtain ⟨h1, h2⟩ := hi
      refine ⟨fun h3 => ⟨h3, fun x => ⟨x, h3⟩, fun x => ?_, fun x => ⟨⟨by omega, by omega⟩, i + 1, ⟨by omega, fun j hj => ?_⟩, by omega, by omega⟩⟩, fun h3 => ?_⟩
      · have : digL s 9 = false := by
          unfold digL
          rw [all_no h3 (p := isDg) (decide_eq_false (by omega))]; simp
        rw [this]; exact ⟨rfl, rfl⟩
      · by_cases e : j = i
        · subst e; exact decide_eq_true (by omega)
        · exact h2 j (by omega)
      · have ha := all_at (p := isDg) fun j hj => h2 j (by omega)
        have hy := pn_yes h ha
        rw [hy]
        have hp : 1 ≤ s.length := by
          cases s with
          | nil => exact absurd rfl h.1.1
          | cons a t => simp
        exact ⟨⟨hp, by omega, ha⟩, rfl, rfl⟩
  · cases h
attribute [push_cast] ckPlainNum
def ckIsDigest6 : Ck
  | [.str s] => some (s.length ≤ 4611686018427387900, .bool (dgB s))
  | _ => none
theorem conIsDigest6 : Con pg 157 ckIsDigest6 := by
  have hct := ctN_ok pg
  intro args q r h hq
  unfold ckIsDigest6 at h
  split at h
  · cases h
    rename_i s
    refine w157 (fun _ => false) [] rfl hct rfl rfl ?_
    push_cast (config := { maxSteps := 10000000 })
    refine LoopW.adj ⟨hct, fol⟩ (by kernel_rfl) [] (fun i : Nat => [(0, .str s), (3, .int .i64 i)]) (fun _ => []) (fun i => i ≤ s.length ∧ ∀ j, j < i → dgC (s.getD j 0) = true) (fun i => s.length - i) 0 ?_ fun i hi => ?_
    · push_cast (config := { maxSteps := 10000000 })
      exact Nat.zero_le _
    · push_cast (config := { maxSteps := 10000000 })
      obtain ⟨h1, h2⟩ := hi
      refine ⟨fun h3 => ⟨h3, fun x => ⟨x, h3⟩, fun x => ⟨x, h3⟩, fun x => ⟨x, h3⟩, fun x => ⟨x, fun y => ⟨x, y⟩⟩, fun x => ?_, fun x => ⟨⟨by omega, by omega⟩, i + 1, ⟨by omega, fun j hj => ?_⟩, by omega, by omega⟩⟩, fun h3 => ?_⟩
      · have : s.all dgC = false := all_no h3 (p := dgC) (decide_eq_false (by omega))
        unfold dgB
        rw [this, Bool.and_false]
      · by_cases e : j = i
        · subst e; exact decide_eq_true (by omega)
        · exact h2 j (by omega)
      · have ha := all_at (p := dgC) fun j hj => h2 j (by omega)
        unfold dgB
        rw [ha, Bool.and_true, Bool.eq_iff_iff, beq_iff_eq, decide_eq_true_eq]
        omega
  · cases h
attribute [push_cast] ckIsDigest6

def ckHeadsAt : Ck
  | [.sl n f, .int .i64 a] => some (isBy n f ∧ 0 ≤ a ∧ a ≤ n ∧ n ≤ 4000000, .tup [.sl (rhL (bytesOf n f) (n + 1) a.toNat []).1.length (lsF cHd (rhL (bytesOf n f) (n + 1) a.toNat []).1), .int .i64 (if (rhL (bytesOf n f) (n + 1) a.toNat []).2.2 = true then ((rhL (bytesOf n f) (n + 1) a.toNat []).2.1 : Int) else 0), .int .i64 (if (rhL (bytesOf n f) (n + 1) a.toNat []).2.2 = true then -1 else ((rhL (bytesOf n f) (n + 1) a.toNat []).2.1 : Int))])
  | _ => none
theorem hdB_2 {s : List UInt8} : hdB s = true ↔ (hdCut s).2.2 = true ∧ (hdCut s).1 ≠ [] ∧ Lib.indexByte (hdCut s).1 58 < 0 := by
  unfold hdB
  rw [Bool.and_eq_true, Bool.and_eq_true, bne_iff_ne, and_assoc]
  have : ((!(Lib.contains (hdCut s).1 [58])) = true ↔ Lib.indexByte (hdCut s).1 58 < 0) := by
    unfold Lib.contains
    rw [Lib.index_one]
    simp
  rw [this]
attribute [push_cast] ckHeadsAt
theorem pre_len (B : List UInt8) (i : Nat) : hasPre (B.drop i) [108, 101, 110, 103, 116, 104, 58, 32] = isL B i [108, 101, 110, 103, 116, 104] := by
  unfold isL hasPre
  simp only [List.length_cons, List.length_nil, List.length_drop]
  rw [Bool.eq_iff_iff]
  simp only [Bool.and_eq_true, decide_eq_true_eq, beq_iff_eq]
  constructor
  · exact fun h => h.2
  · intro h
    have hl := congrArg List.length h
    simp only [List.length_take, List.length_drop, List.length_append, List.length_cons, List.length_nil] at hl
    exact ⟨by omega, h⟩
/-- what the reference's heads hand back: the heads, the place, the first fault -/
def rH (B : List UInt8) (a : Nat) (z : Int) : List Hd × Nat × Int :=
  if 0 ≤ z then ([], a, z) else if (hdsR B (B.length + 1) a []).1 = true then ((hdsR B (B.length + 1) a []).2.2, (hdsR B (B.length + 1) a []).2.1, z) else ([], (hdsR B (B.length + 1) a []).2.1, ((hdsR B (B.length + 1) a []).2.1 : Int))
def ckHeads6K : List V → List Blk → Option (Prop × V × List Blk)
  | [.ptr _ 0], [.cells [.sl n f, .int .i64 a, .int .i64 z]] => some (isBy n f ∧ n ≤ 4000000 ∧ 0 ≤ a ∧ (z < 0 → a ≤ n), .sl (rH (bytesOf n f) a.toNat z).1.length (lsF cHd (rH (bytesOf n f) a.toNat z).1), [.cells [.sl n f, .int .i64 (rH (bytesOf n f) a.toNat z).2.1, .int .i64 (rH (bytesOf n f) a.toNat z).2.2]])
  | _, _ => none
def ckHeads6 : Cf := ⟨fun | [.ptr i _] => [i] | _ => [], ckHeads6K⟩
theorem conHeads6 : FCon pg 156 ckHeads6 := by
  have hct := (ctF_ok conLn6 (ctF_ok conStop (ctF_ok conNext (ctF_ok conBegins (ctA_ok conCut (ctA_ok conIndexByte (ctN_ok _)))))))
  intro args bs q r bs' h hq
  replace h : ckHeads6K args bs = some (q, r, bs') := h
  unfold ckHeads6K at h
  split at h
  · cases h
    rename_i i n f a z
    refine ⟨rfl, by first | exact Nat.le_refl _ | exact Nat.zero_le _, ?_⟩
    obtain ⟨h1, h2, h4, h5⟩ := hq
    obtain ⟨a, rfl⟩ : ∃ k : Nat, a = k := ⟨a.toNat, by omega⟩
    rw [Int.toNat_natCast]
    have hb := bytesOf_len n f
    generalize hR : rH (bytesOf n f) a z = R
    show FCall pg 156 [.ptr (i + 9000) 0] [(i + 9000, .cells [.sl n f, .int .i64 (a : Nat), .int .i64 z])] (.sl R.1.length (lsF cHd R.1)) [(i + 9000, .cells [.sl n f, .int .i64 (R.2.1 : Nat), .int .i64 R.2.2])]
    refine fw156 (fun _ => false) [.frz 90] rfl hct rfl (by simp) (by simp [hlIn, idsIn, Blk.menIn, V.menInL, V.menIn, V.flat, byF, lsF]) (by simp [V.menIn, V.menInL, idsIn]) ?_
    push_cast (config := { maxSteps := 10000000 })
    refine LoopW.adj ⟨hct, fol⟩ (by kernel_rfl) [.nv 3 90 2 (lsF cHd [])] (fun t : Nat × List Hd => [(0, .ptr (i + 9000) 0), (3, .vec 90 t.2.length)]) (fun t => [(i + 9000, .cells [.sl n f, .int .i64 t.1, .int .i64 z]), (90, .vec 2 t.2.length (lsF cHd t.2))]) (fun t => (z < 0 → t.1 ≤ n) ∧ (0 ≤ z → t = (a, [])) ∧ t.2.length ≤ t.1 ∧ (z < 0 → ∃ k, n < t.1 + k ∧ hdsR (bytesOf n f) k t.1 t.2 = hdsR (bytesOf n f) (n + 1) a [])) (fun t => n - t.1) (a, []) ?_ fun t ht => ?_
    · push_cast (config := { maxSteps := 10000000 })
      exact ⟨fun h => by have := h5 h; omega, Nat.zero_le _, fun h => ⟨n + 1, by omega, rfl⟩⟩
    · obtain ⟨p, o⟩ := t
      obtain ⟨i1, i2, i3, i4⟩ : (z < 0 → p ≤ n) ∧ (0 ≤ z → (p, o) = (a, [])) ∧ o.length ≤ p ∧ (z < 0 → ∃ k, n < p + k ∧ hdsR (bytesOf n f) k p o = hdsR (bytesOf n f) (n + 1) a []) := ht
      push_cast (config := { maxSteps := 10000000 })
      refine ⟨fun hz => ⟨hz, ⟨h1, h2, i1 hz⟩, fun g => ?_, fun g => ?_⟩, fun hz => ⟨fun x => hz x, fun x => absurd x hz, fun _ => ?_⟩⟩
      · obtain ⟨k, k1, k2⟩ := i4 hz
        have hp := i1 hz
        obtain ⟨k, rfl⟩ : ∃ k', k = k' + 1 := ⟨k - 1, by omega⟩
        rw [pre_len] at g
        rw [hdsR, if_neg (by rw [g.2]; simp)] at k2
        have hl := l6S_le (B := bytesOf n f) (a := p) (by omega)
        unfold rH at hR
        rw [if_neg (by omega), hb] at hR
        refine ⟨⟨h1, h2, hp⟩, by omega, fun bad => ?_, fun good => ?_⟩
        · have hno : (lnB (bytesOf n f) p && hdB (lnS (bytesOf n f) p)) = false := by
            cases hB : lnB (bytesOf n f) p with
            | false => rfl
            | true =>
              rw [(l6S_eq hB).1, hB] at bad
              rw [Bool.true_and, Bool.eq_false_iff]
              intro x
              have := hdB_2.1 x
              unfold hdCut at this
              rcases bad with ((b | b) | b) | b
              · cases b
              · rw [b] at this; exact absurd this.1 (by simp)
              · exact this.2.1 b
              · have := this.2.2; omega
          rw [if_neg (by rw [hno]; simp)] at k2
          rw [← k2, if_neg (by simp)] at hR
          rw [← hR]
          unfold stZ
          rw [if_pos hz]
          exact ⟨rfl, rfl, rfl⟩
        · have hB := good.1.1.1
          obtain ⟨e1, e2⟩ := l6S_eq hB
          rw [e1] at good hl ⊢
          have hy : hdB (lnS (bytesOf n f) p) = true := hdB_2.2 ⟨good.1.1.2, good.1.2, by unfold hdCut; omega⟩
          rw [if_pos (by rw [hB, hy]; rfl)] at k2
          have hf := ln_fit (b := bytesOf n f) (a := p) (by omega) hB
          have hv : hdV (lnS (bytesOf n f) p) = (Hd.mk (Lib.cut (lnS (bytesOf n f) p) [58, 32]).1 (Lib.cut (lnS (bytesOf n f) p) [58, 32]).2.1) := by
            unfold hdV; rw [if_pos hy]; rfl
          rw [hv] at k2
          have app := LsI.app (c := cHd) (f := lsF cHd o) (g := litF [cHd.enc (Hd.mk (Lib.cut (lnS (bytesOf n f) p) [58, 32]).1 (Lib.cut (lnS (bytesOf n f) p) [58, 32]).2.1)]) (LsI.ls o) (LsI.one (c := cHd) (a := (Hd.mk (Lib.cut (lnS (bytesOf n f) p) [58, 32]).1 (Lib.cut (lnS (bytesOf n f) p) [58, 32]).2.1)) rfl) rfl
          exact ⟨⟨by omega, by omega⟩, ⟨by omega, by omega⟩, ((lnN (bytesOf n f) p, o ++ [(Hd.mk (Lib.cut (lnS (bytesOf n f) p) [58, 32]).1 (Lib.cut (lnS (bytesOf n f) p) [58, 32]).2.1)]) : Nat × List Hd), ⟨fun _ => by show lnN _ p ≤ n; omega, fun h => absurd hz (by omega), by show (o ++ [_]).length ≤ lnN _ p; simp; omega, fun _ => ⟨k, by show n < lnN _ p + k; omega, k2⟩⟩, by show n - lnN _ p < n - p; omega, by simp, by omega, by simp, app.2⟩
      · obtain ⟨k, k1, k2⟩ := i4 hz
        obtain ⟨k, rfl⟩ : ∃ k', k = k' + 1 := ⟨k - 1, by omega⟩
        rw [pre_len] at g
        rw [hdsR, if_pos (g hz)] at k2
        unfold rH at hR
        rw [if_neg (by omega), hb, ← k2, if_pos rfl] at hR
        rw [← hR]
        exact ⟨⟨rfl, fun _ _ => rfl⟩, rfl, rfl⟩
      · have e := i2 (by omega)
        cases e
        unfold rH at hR
        rw [if_pos (by omega)] at hR
        rw [← hR]
        exact ⟨⟨rfl, fun _ _ => rfl⟩, rfl, rfl⟩
  · cases h
attribute [push_cast] ckHeads6K
@[push_cast] theorem heads6_ids (i o : Nat) : ckHeads6.ids [.ptr i o] = [i] := rfl
@[push_cast] theorem heads6_k (i n : Nat) (f : Nat → V) (a z : Int) : ckHeads6.k [.ptr i 0] [.cells [.sl n f, .int .i64 a, .int .i64 z]] = some (isBy n f ∧ n ≤ 4000000 ∧ 0 ≤ a ∧ (z < 0 → a ≤ n), .sl (rH (bytesOf n f) a.toNat z).1.length (lsF cHd (rH (bytesOf n f) a.toNat z).1), [.cells [.sl n f, .int .i64 (rH (bytesOf n f) a.toNat z).2.1, .int .i64 (rH (bytesOf n f) a.toNat z).2.2]]) := rfl

def digsL (s : List UInt8) : Bool := s.all isDg && decide (1 ≤ s.length)
theorem digsL_no {s : List UInt8} (h : s.all isDg = false) : false = digsL s := by unfold digsL; rw [h, Bool.false_and]
def ckIsDigits : Ck
  | [.str s] => some (s.length ≤ 4611686018427387904, .bool (digsL s))
  | _ => none
theorem conIsDigits : Con pg 188 ckIsDigits := by
  have hct := ctN_ok pg
  intro args q r h hq
  unfold ckIsDigits at h
  split at h
  · cases h
    rename_i s
    refine w188 (fun _ => false) [] rfl hct rfl rfl ?_
    push_cast (config := { maxSteps := 10000000 })
    refine LoopW.adj ⟨hct, fol⟩ (by kernel_rfl) [] (fun i : Nat => [(0, .str s), (3, .int .i64 i)]) (fun _ => []) (fun i => i ≤ s.length ∧ ∀ j, j < i → isDg (s.getD j 0) = true) (fun i => s.length - i) 0 ?_ fun i hi => ?_
    · push_cast (config := { maxSteps := 10000000 })
      exact Nat.zero_le _
    · push_cast (config := { maxSteps := 10000000 })
      obtain ⟨h1, h2⟩ := hi
      (repeat' (first | apply And.intro | intro _)) <;> (try first | assumption | contradiction | omega | exact rfl | exact trivial)
      · rename_i a b
        exact digsL_no (all_no' (d := 0) a (by unfold isDg; exact decide_eq_false (by omega)))
      · rename_i a b
        refine ⟨i + 1, ⟨by omega, fun j hj => ?_⟩, by omega, by omega⟩
        by_cases e : j = i
        · subst e; exact decide_eq_true (by omega)
        · exact h2 j (by omega)
      · unfold digsL
        rw [all_at' fun j hj => h2 j (by omega), Bool.true_and]
        cases s <;> simp
  · cases h
attribute [push_cast] ckIsDigits
def plainL (s : List UInt8) : Bool := digsL s && (decide (s.length = 1) || decide (s.getD 0 0 ≠ 48))
/-- of digits: the number, or a limit -/
def capL (s : List UInt8) (n : Int) : Int := if 15 < s.length then n else min (natOf s : Int) n
/-- without 0s at its head, but for the last byte -/
def stripZ : List UInt8 → List UInt8
  | c :: d :: t => if c = 48 then stripZ (d :: t) else c :: d :: t
  | s => s
theorem stripZ_hit {s : List UInt8} (h1 : 1 < s.length) (h2 : s.getD 0 0 = 48) : stripZ s = stripZ (s.drop 1) := by
  match s, h1, h2 with
  | c :: d :: t, _, h2 => simp only [List.getD_cons_zero] at h2; rw [stripZ, if_pos h2]; rfl
theorem stripZ_miss {s : List UInt8} (h : 1 < s.length → ¬ s.getD 0 0 = 48) : stripZ s = s := by
  match s, h with
  | [], _ => rfl
  | [c], _ => rfl
  | c :: d :: t, h => rw [stripZ, if_neg (by simpa using h (by simp))]
theorem natOf_zero (s : List UInt8) : natOf (48 :: s) = natOf s := rfl
theorem natOf_strip (s : List UInt8) : natOf (stripZ s) = natOf s := by
  fun_induction stripZ s with
  | case1 d t ih => rw [ih, natOf_zero]
  | case2 c d t h => rfl
  | case3 s h => rfl
theorem stripZ_len (s : List UInt8) : (stripZ s).length ≤ s.length := by
  fun_induction stripZ s with
  | case1 d t ih => simp only [List.length_cons] at ih ⊢; omega
  | case2 c d t h => exact Nat.le_refl _
  | case3 s h => exact Nat.le_refl _
def ckCap : Ck
  | [.str s, .int .i64 n] => some (digsL s = true ∧ s.length ≤ 4611686018427387904, .int .i64 (capL (stripZ s) n))
  | _ => none
theorem digs_all {s : List UInt8} (h : digsL s = true) : 1 ≤ s.length ∧ s.all isDg = true := by
  simp only [digsL, Bool.and_eq_true, decide_eq_true_eq] at h
  exact ⟨h.2, h.1⟩
theorem plain_digs {s : List UInt8} (h : plainL s = true) : digsL s = true ∧ stripZ s = s := by
  simp only [plainL, Bool.and_eq_true, Bool.or_eq_true, decide_eq_true_eq] at h
  refine ⟨h.1, stripZ_miss fun h1 => ?_⟩
  rcases h.2 with h2 | h2
  · omega
  · exact h2
theorem plain_all {s : List UInt8} (h : plainL s = true) : 1 ≤ s.length ∧ s.all isDg = true ∧ (s.length = 1 ∨ s.getD 0 0 ≠ 48) := by
  simp only [plainL, digsL, Bool.and_eq_true, Bool.or_eq_true, decide_eq_true_eq] at h
  exact ⟨h.1.2, h.1.1, h.2⟩
theorem cap_small {s : List UInt8} {n : Int} (h : s.length ≤ 15) (hn : (natOf s : Int) ≤ n) : capL (stripZ s) n = natOf s := by
  have := stripZ_len s
  unfold capL
  rw [if_neg (by omega), natOf_strip]; omega
theorem conCap : Con pg 189 ckCap := by
  have hct := (ctA_ok conAtoi (ctN_ok _))
  intro args q r h hq
  unfold ckCap at h
  split at h
  · cases h
    rename_i s n
    refine w189 (fun _ => false) [] rfl hct rfl rfl ?_
    push_cast (config := { maxSteps := 10000000 })
    refine LoopW.adj ⟨hct, fol⟩ (by kernel_rfl) [] (fun t : List UInt8 => [(0, .str t), (1, .int .i64 n)]) (fun _ => []) (fun t => t.length ≤ s.length ∧ digsL t = true ∧ stripZ t = stripZ s) (fun t => t.length) s ?_ fun t hi => ?_
    · push_cast (config := { maxSteps := 10000000 })
      exact ⟨Nat.le_refl _, hq.1⟩
    · push_cast (config := { maxSteps := 10000000 })
      obtain ⟨i1, i2, i3⟩ := hi
      obtain ⟨p1, p2⟩ := digs_all i2
      refine ⟨fun h => ⟨h, by omega⟩, fun h => ⟨by omega, t.drop 1, ⟨by simp; omega, ?_, ?_⟩, by simp; omega, ?_⟩, fun h => ?_⟩
      · have hc : 1 < t.length ∧ _ := ⟨by omega, h.2⟩
        unfold digsL
        rw [Bool.and_eq_true, decide_eq_true_eq]
        refine ⟨?_, by simp; omega⟩
        rw [List.all_eq_true] at p2 ⊢
        exact fun x hx => p2 x (List.mem_of_mem_drop hx)
      · rw [← i3, stripZ_hit (by omega) ((u8_eq _ _).2 h.2)]
      · rfl
      · have hz : stripZ s = t := by rw [← i3]; exact stripZ_miss fun h1 e => h (by omega) ((u8_eq _ _).1 e)
        rw [hz]
        refine ⟨fun h5 => ?_, fun h5 => ⟨⟨p1, by omega, p2⟩, ?_⟩⟩
        · unfold capL; rw [if_pos (by omega)]
        · unfold capL; rw [if_neg (by omega)]
  · cases h
attribute [push_cast] ckCap

end Go.Abs
