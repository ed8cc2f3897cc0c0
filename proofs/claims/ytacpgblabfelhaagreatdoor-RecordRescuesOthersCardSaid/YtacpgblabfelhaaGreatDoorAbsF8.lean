/- what functions of this program compute: contracts, each a function's own -/
import Derived.Test.YtacpgblabfelhaaGreatDoorAbsK2
import Derived.Test.YtacpgblabfelhaaGreatDoorAbsFacts
import Derived.Test.YtacpgblabfelhaaGreatDoorAbsF7
import Derived.Test.YtacpgblabfelhaaGreatDoorAbsShelf
import Derived.Lib.SlTrimSet
import Derived.Lib.Atoi
import Derived.Lib.Itoa
import Derived.Lib.ItoaNum
import Derived.Lib.AtoiErrMem
import Derived.Lib.ItoaLen
import Derived.Lib.SplitLaws
import Derived.Lib.Index
import Derived.Lib.IndexBytes
import Derived.Shelf.Bytes.SlIndexWhole
namespace Go.Abs
open Go Go.Proofs
set_option maxHeartbeats 4000000
set_option maxRecDepth 100000
set_option linter.unusedVariables false
set_option linter.unusedSimpArgs false
theorem xor8 (x : UInt8) (y : Int) (h0 : 0 ≤ y) (h1 : y < 256) (hy : y ≠ 0) : ∃ d : UInt8, bitsI .xor .u8 ((x.toNat : Nat) : Int) y = ((d.toNat : Nat) : Int) ∧ d ≠ x := by
  obtain ⟨u, rfl⟩ : ∃ u : Nat, y = u := ⟨y.toNat, by omega⟩
  have hx := UInt8.toNat_lt x
  have hl := (BitVec.ofNat 8 x.toNat ^^^ BitVec.ofNat 8 u).isLt
  refine ⟨UInt8.ofNat (BitVec.ofNat 8 x.toNat ^^^ BitVec.ofNat 8 u).toNat, ?_, fun e => ?_⟩
  · show IntKind.u8.wrap (((BitVec.ofInt 8 (x.toNat : Int) ^^^ BitVec.ofInt 8 (u : Int) : BitVec 8).toNat : Nat) : Int) = _
    rw [BitVec.ofInt_natCast, BitVec.ofInt_natCast, UInt8.toNat_ofNat', show ∀ n : Int, IntKind.u8.wrap n = n % 256 from fun n => by simp [IntKind.wrap, IntKind.bits, IntKind.signed]]
    omega
  · have e2 := congrArg UInt8.toNat e
    rw [UInt8.toNat_ofNat'] at e2
    have e3 : BitVec.ofNat 8 x.toNat ^^^ BitVec.ofNat 8 u = BitVec.ofNat 8 x.toNat := BitVec.eq_of_toNat_eq (by rw [BitVec.toNat_ofNat]; omega)
    have e4 := congrArg (BitVec.ofNat 8 x.toNat ^^^ ·) e3
    simp only [← BitVec.xor_assoc, BitVec.xor_self, BitVec.zero_xor] at e4
    have e5 := congrArg BitVec.toNat e4
    rw [BitVec.toNat_ofNat] at e5
    simp at e5
    omega
theorem recB_bd (r : Rcd) : r.bd.length + 4 ≤ (recB r).length := by
  unfold recB
  simp only [List.length_append, List.length_cons, List.length_nil]
  omega
/-- the file with one byte of a block another, in parts -/
theorem set_parts {l : List Rcd} {n a : Nat} (d : UInt8) (hn : n < l.length) (ha : a < (l.getD n noRec).bd.length) :
    (fileB l).set ((fileB (l.take n)).length + (recB (l.getD n noRec)).length - 4 - (l.getD n noRec).bd.length + a) d = fileB (l.take n) ++ lnsB (l.getD n noRec) (((l.getD n noRec).bd.take a ++ d :: (l.getD n noRec).bd.drop (a + 1)) ++ crlf2 ++ fileB (l.drop (n + 1))) ∧
    (fileB l).getD ((fileB (l.take n)).length + (recB (l.getD n noRec)).length - 4 - (l.getD n noRec).bd.length + a) 0 = (l.getD n noRec).bd.getD a 0 := by
  have hl : fileB l = fileB (l.take n) ++ (recB (l.getD n noRec) ++ fileB (l.drop (n + 1))) := by
    conv => lhs; rw [← List.take_append_drop n l, fileB_app, dropG (d := noRec) hn, fileB]
  generalize l.getD n noRec = r at *
  have hr : recB r ++ fileB (l.drop (n + 1)) = lnsB r [] ++ (r.bd ++ (crlf2 ++ fileB (l.drop (n + 1)))) := by rw [recB_lns, lnsB_app, List.append_assoc]
  have hrl : (recB r).length = (lnsB r []).length + (r.bd.length + 4) := by
    have := congrArg List.length (recB_lns r [])
    rw [lnsB_app] at this
    simpa [crlf2] using this
  have hp : (fileB (l.take n)).length + (recB r).length - 4 - r.bd.length + a = (fileB (l.take n)).length + ((lnsB r []).length + a) := by omega
  have hset : r.bd.set a d = r.bd.take a ++ d :: r.bd.drop (a + 1) := by rw [List.set_eq_take_append_cons_drop, if_pos ha]
  rw [hp, hl, hr]
  constructor
  · rw [List.set_append_right _ _ (by omega), show (fileB (l.take n)).length + ((lnsB r []).length + a) - (fileB (l.take n)).length = (lnsB r []).length + a by omega, List.set_append_right _ _ (by omega), show (lnsB r []).length + a - (lnsB r []).length = a by omega, List.set_append_left _ _ ha, hset, lnsB_app r (_ ++ crlf2 ++ _), List.append_assoc (r.bd.take a ++ d :: r.bd.drop (a + 1))]
  · rw [List.getD_eq_getElem?_getD, List.getElem?_append_right (by omega), show (fileB (l.take n)).length + ((lnsB r []).length + a) - (fileB (l.take n)).length = (lnsB r []).length + a by omega, List.getElem?_append_right (by omega), show (lnsB r []).length + a - (lnsB r []).length = a by omega, List.getElem?_append_left ha, ← List.getD_eq_getElem?_getD]
theorem idx_none : ∀ (s sub : List UInt8), sub ≠ [] → Lib.index s sub = -1 → ∀ j, sub.isPrefixOf (s.drop j) = false
  | [], sub, hne, _, j => by
    rw [List.drop_nil]
    cases sub with
    | nil => exact (hne rfl).elim
    | cons c t => rfl
  | b :: l, sub, hne, h, j => by
    rw [Lib.index] at h
    by_cases hp : sub.isPrefixOf (b :: l) = true
    · rw [if_pos hp] at h; omega
    · rw [if_neg hp] at h
      have hge := Lib.index_ge l sub
      have h2 : Lib.index l sub = -1 := by
        by_cases e : Lib.index l sub = -1
        · exact e
        · rw [if_neg (by simpa using e)] at h; omega
      match j with
      | 0 =>
        rw [List.drop_zero]
        cases e : sub.isPrefixOf (b :: l) with
        | false => rfl
        | true => exact (hp e).elim
      | j + 1 => rw [List.drop_succ_cons]; exact idx_none l sub hne h2 j
/-- no second record begins in a record in which the first word does not stand again -/
theorem hk_of {C Q : List UInt8} {o n : Nat} (h4 : C.drop (o + n - 4) = crlf2 ++ Q) (hn : 4 ≤ n) (hidx : Lib.index ((C.drop (o + 1)).take (n - 1)) wKept0 = -1) : ∀ j, o < j → j < o + n → (C.drop j).take 6 ≠ wKept0 := by
  intro j j1 j2 e
  by_cases hj : j + 6 ≤ o + n
  · have := idx_none _ wKept0 (by decide) hidx (j - (o + 1))
    rw [List.drop_take, List.drop_drop, show o + 1 + (j - (o + 1)) = j by omega] at this
    have hp : wKept0.isPrefixOf ((C.drop j).take (n - 1 - (j - (o + 1)))) = true := by
      rw [List.isPrefixOf_iff_prefix]
      refine ⟨((C.drop j).take (n - 1 - (j - (o + 1)))).drop 6, ?_⟩
      conv => rhs; rw [← List.take_append_drop 6 ((C.drop j).take (n - 1 - (j - (o + 1))))]
      rw [List.take_take, Nat.min_eq_left (by omega), e]
    rw [hp] at this
    cases this
  · have g1 : ∀ i, i < 6 → C.getD (j + i) 0 = wKept0.getD i 0 := fun i hi => by
      rw [← e, List.getD_eq_getElem?_getD, List.getD_eq_getElem?_getD, List.getElem?_take_of_lt hi, List.getElem?_drop]
    have g2 : ∀ q, q < 4 → C.getD (o + n - 4 + q) 0 = crlf2.getD q 0 := fun q hq => by
      have : (C.drop (o + n - 4)).getD q 0 = crlf2.getD q 0 := by
        rw [h4, List.getD_eq_getElem?_getD, List.getD_eq_getElem?_getD, List.getElem?_append_left (by exact hq)]
      rw [← this, List.getD_eq_getElem?_getD, List.getD_eq_getElem?_getD, List.getElem?_drop]
    have key : ∀ i : Fin 6, ∀ q : Fin 4, wKept0.getD i.1 0 ≠ crlf2.getD q.1 0 := by decide
    by_cases hc : j ≤ o + n - 4
    · refine key ⟨o + n - 4 - j, by omega⟩ ⟨0, by omega⟩ ?_
      rw [← g1 _ (by omega), ← g2 0 (by omega)]
      congr 1; show j + (o + n - 4 - j) = _; omega
    · refine key ⟨0, by omega⟩ ⟨j - (o + n - 4), by omega⟩ ?_
      rw [← g1 0 (by omega), ← g2 _ (by omega)]
      congr 1; show j + 0 = o + n - 4 + (j - (o + n - 4)); omega

def ckCloneHd : Ck
  | [.sl n f] => some (isLs cHd n f ∧ n ≤ 1000000000000, .sl n f)
  | _ => none
theorem conCloneHd : Con pg 69 ckCloneHd := by
  have hct := ctN_ok pg
  intro args q r h hq
  unfold ckCloneHd at h
  split at h
  · cases h
    rename_i n f
    by_cases hn : n = 0
    · subst hn
      refine pcall_nil1 fun a c => ?_
      refine w69 (fun d => decide (d < 9999)) [.frz 5] rfl hct rfl rfl ?_
      push_cast (config := { maxSteps := 10000000 })
      cases a
      · push_cast (config := { maxSteps := 10000000 })
      · push_cast (config := { maxSteps := 10000000 })
    · refine w69 (fun d => decide (d < 9999)) [.frz 5] rfl hct rfl rfl ?_
      push_cast (config := { maxSteps := 10000000 })
      obtain ⟨h1, h2⟩ := hq
      exact ⟨by omega, ⟨h1.flat (fun _ => rfl), by omega, by omega⟩, h1.pure (fun _ => rfl)⟩
  · cases h
attribute [push_cast] ckCloneHd
theorem ncall_nil1 {f : FuncId} {g : Nat → V} {r : V} {nb : Blk} (h : ∀ a c, NCall pg f [.con (.slice a 0 c)] r nb) : NCall pg f [.sl 0 g] r nb := by
  intro S vals hs hh hl hr
  match vals, hl with
  | [v], _ =>
    have h0 := hr 0 (by simp)
    simp only [List.getD_cons_zero] at h0
    obtain ⟨a, c, rfl⟩ : ∃ a c, v = .slice a 0 c := by
      cases inv_sl h0 with
      | sl0 _ a c => exact ⟨a, c, rfl⟩
      | sl _ _ b off c sz u => exact ⟨_, _, rfl⟩
    exact h a c S [.slice a 0 c] hs hh rfl fun i hi => by
      have : i = 0 := by simp at hi; omega
      subst this
      exact .pure (.con _)
def ckCloneRec : List V → Option (Prop × V × Blk)
  | [.sl n f] => some (isLs cRec n f ∧ n ≤ 1000000, .vec 8999 n, .vec 7 n f)
  | _ => none
theorem conCloneRec : NCon pg 51 ckCloneRec := by
  have hct := ctN_ok pg
  intro args q r nb h hq
  unfold ckCloneRec at h
  split at h
  · cases h
    rename_i n f
    by_cases hn : n = 0
    · subst hn
      refine ncall_nil1 fun a c => ?_
      cases a
      · refine nw51 (fun d => decide (d < 9999)) [.nv 2 8999 7 f] rfl hct rfl rfl ?_ ?_
        · simp [noIdB]
        push_cast (config := { maxSteps := 10000000 })
      · refine nw51 (fun d => decide (d < 9999)) [.ren 5 8999] rfl hct rfl rfl ?_ ?_
        · simp [noIdB]
        push_cast (config := { maxSteps := 10000000 })
    · obtain ⟨h1, h2⟩ := hq
      refine nw51 (fun d => decide (d < 9999)) [.ren 5 8999] rfl hct rfl rfl ?_ ?_
      · intro i hi; show V.noIdL (f i).flat = true; rw [h1.2 i hi]; rfl
      push_cast (config := { maxSteps := 10000000 })
      exact ⟨by omega, ⟨h1.flat (fun _ => rfl), by omega, by omega⟩, fun i hi => by rw [h1.2 i hi]; rfl⟩
  · cases h
attribute [push_cast] ckCloneRec
theorem setF_self (f : Nat → V) (i : Nat) : setF f i (f i) = f := by
  funext j
  unfold setF
  by_cases e : j = i
  · subst e; rw [decide_eq_true rfl]; rfl
  · rw [decide_eq_false e]; rfl
def ckCopies : Ck
  | [.sl n f] => some (isLs cRec n f ∧ recsOk (lsOf cRec n f) ∧ (∀ r ∈ lsOf cRec n f, r.hd.length ≤ 1000000) ∧ n ≤ 1000000, .sl (lsOf cRec n f).length (lsF cRec (lsOf cRec n f)))
  | _ => none
theorem conCopies : Con pg 52 ckCopies := by
  have hct := (ctA_ok conCloneHd (ctA_ok conCloneBy (ctW_ok conCloneRec (ctN_ok _))))
  intro args q r h hq
  unfold ckCopies at h
  split at h
  · cases h
    rename_i n f
    refine pcall_args (args' := [.sl (lsOf cRec n f).length (lsF cRec (lsOf cRec n f))]) ⟨isLs.vle hq.1, trivial⟩ ?_
    obtain ⟨-, hl, hh, hn⟩ := hq
    have hn : (lsOf cRec n f).length ≤ 1000000 := by rw [lsOf_len]; exact hn
    generalize lsOf cRec n f = l at hl hh hn ⊢
    refine w52 (fun _ => false) [.frz 6] rfl hct rfl rfl ?_
    push_cast (config := { maxSteps := 10000000 })
    refine ⟨hn, ?_⟩
    refine LoopW.adj ⟨hct, fol⟩ (by kernel_rfl) [] (fun i : Nat => [(3, .vec 6 l.length), (8, .int .i64 l.length), (9, .int .i64 i)]) (fun _ => [(6, .vec 7 l.length (lsF cRec l))]) (fun i => i ≤ l.length) (fun i => l.length - i) 0 ?_ fun i hi => ?_
    · push_cast (config := { maxSteps := 10000000 })
      exact Nat.zero_le _
    · push_cast (config := { maxSteps := 10000000 })
      intro h
      have ok := recsOk_at hl h
      have h30 : (l.getD i noRec).hd.length ≤ 1000000 := hh _ (by rw [List.getD_eq_getElem?_getD, List.getElem?_eq_getElem h]; exact List.getElem_mem h)
      refine ⟨h, h, by omega, h, h, ok.2.2.2.2.2.1, h, h, h, h, ⟨by omega, by omega⟩, i + 1, by omega, by omega, by omega, fun k hk => ?_⟩
      have e := setF_self (lsF cRec l) i
      show setF (setF (lsF cRec l) i (lsF cRec l i)) i (reV (setF (lsF cRec l) i (lsF cRec l i) i) (setR (setF (lsF cRec l) i (lsF cRec l i) i).flat 6 [V.sl (l.getD i noRec).bd.length (byF (l.getD i noRec).bd)])) k = lsF cRec l k
      rw [e]
      exact congrFun e k
  · cases h
attribute [push_cast] ckCopies

def ckBIndex : Ck
  | [.sl n f, .sl m g] => some (isBy n f ∧ isBy m g ∧ n < 4294967281 ∧ 2 ≤ m ∧ m ≤ 4611686018427387904, .int .i64 (Lib.index (bytesOf n f) (bytesOf m g)))
  | _ => none
theorem libBytes (a : List UInt8) : Lib.bytesOf (a.map fun x => (x.toNat : Int)) = a := by
  unfold Lib.bytesOf
  rw [List.map_map]
  conv => rhs; rw [← List.map_id a]
  refine List.map_congr_left fun x _ => ?_
  simp
theorem nums_byte (a : List UInt8) : ∀ x ∈ a.map (fun x => (x.toNat : Int)), 0 ≤ x ∧ x < 256 := by
  intro x hx
  obtain ⟨y, _, rfl⟩ := List.mem_map.1 hx
  have := UInt8.toNat_lt y
  omega
theorem nums_at (a : List UInt8) (i : Nat) : (a.map (fun x => (x.toNat : Int))).getD i 0 = ((a.getD i 0).toNat : Int) := by
  rw [List.getD_eq_getElem?_getD, List.getD_eq_getElem?_getD, List.getElem?_map]
  cases a[i]? <;> rfl
theorem conBIndex : Con pg 83 ckBIndex := by
  intro args q r h hq
  unfold ckBIndex at h
  split at h
  · cases h
    rename_i n f m g
    obtain ⟨q1, q2, q3, q4, q5⟩ := hq
    refine pcall_args (args' := [.sl (bytesOf n f).length (byF (bytesOf n f)), .sl (bytesOf m g).length (byF (bytesOf m g))]) ⟨q1.vle, q2.vle, trivial⟩ ?_
    rw [← bytesOf_len n f] at q3
    rw [← bytesOf_len m g] at q4 q5
    generalize bytesOf n f = a at q3 ⊢
    generalize bytesOf m g = b at q4 q5 ⊢
    refine pcall_rep (by kernel_rfl) fun S vals hw hl hr => ?_
    obtain ⟨u, v, rfl⟩ := vals2 hl
    obtain ⟨a1, c1, rfl, k1, k2, k3⟩ := inv_bytes (b := a) (by simpa using hr 0 (by simp))
    obtain ⟨a2, c2, rfl, l1, l2, l3⟩ := inv_bytes (b := b) (by simpa using hr 1 (by simp))
    obtain ⟨mx, hmx⟩ := maxLen hw
    cases a2 with
    | none => have := l2 rfl; omega
    | some A2 =>
      cases a1 with
      | none =>
        have h0 := k2 rfl
        refine (Any.bytes_Index_longer (Tryz.lays185) none (some A2) a.length c1 b.length c2 S.w (by omega) (by omega) (by omega)).mono fun e w' h => ?_
        obtain ⟨he, rfl⟩ := h
        refine ⟨_, he, grow_eq rfl, fun γ imm _ _ => .pure ?_⟩
        have : a = [] := List.length_eq_zero_iff.1 h0
        subst this
        have e : Lib.index [] b = -1 := by
          rw [Lib.index]
          match b, q4 with
          | x :: t, _ => rfl
        rw [e]; exact .int _ _
      | some A1 =>
        refine (Any.bytes_Index_at (Tryz.lays185) A1 A2 a.length c1 b.length c2 (a.map fun x => (x.toNat : Int)) (b.map fun x => (x.toNat : Int)) mx S.w (by simp) (by simp) (nums_byte a) (nums_byte b) (fun i hi => by rw [nums_at]; exact k3 A1 rfl i hi) (fun i hi => by rw [nums_at]; exact l3 A2 rfl i hi) k1 q3 (by omega) hmx).mono fun e w' h => ?_
        obtain ⟨he, n, rfl⟩ := h
        rw [libBytes, libBytes] at he
        exact ⟨_, he, grow_drewN _ _, fun γ imm _ _ => .pure (.int _ _)⟩
  · cases h
attribute [push_cast] ckBIndex

def ckCloneByN : List V → Option (Prop × V × Blk)
  | [.sl n f] => some (isBy n f ∧ n ≤ 140737488355328, .vec 8999 n, .vec 1 n f)
  | _ => none
theorem conCloneByN : NCon pg 48 ckCloneByN := by
  have hct := ctN_ok pg
  intro args q r nb h hq
  unfold ckCloneByN at h
  split at h
  · cases h
    rename_i n f
    by_cases hn : n = 0
    · subst hn
      refine ncall_nil1 fun a c => ?_
      cases a
      · refine nw48 (fun d => decide (d < 9999)) [.nv 2 8999 1 f] rfl hct rfl rfl ?_ ?_
        · simp [noIdB]
        push_cast (config := { maxSteps := 10000000 })
      · refine nw48 (fun d => decide (d < 9999)) [.ren 5 8999] rfl hct rfl rfl ?_ ?_
        · simp [noIdB]
        push_cast (config := { maxSteps := 10000000 })
    · obtain ⟨h1, h2⟩ := hq
      refine nw48 (fun d => decide (d < 9999)) [.ren 5 8999] rfl hct rfl rfl ?_ ?_
      · intro i hi; show V.noIdL (f i).flat = true; rw [h1.2 i hi]; rfl
      push_cast (config := { maxSteps := 10000000 })
      exact ⟨by omega, ⟨h1.flat, by omega, by omega⟩, fun i hi => by rw [h1.2 i hi]; rfl⟩
  · cases h
attribute [push_cast] ckCloneByN
def ckBContains : Ck
  | [.sl n f, .sl m g] => some (isBy n f ∧ isBy m g ∧ n < 4294967281 ∧ 2 ≤ m ∧ m ≤ 4611686018427387904, .bool (decide (Lib.index (bytesOf n f) (bytesOf m g) ≠ -1)))
  | _ => none
theorem conBContains : Con pg 49 ckBContains := by
  have hct := (ctA_ok conBIndex (ctN_ok _))
  intro args q r h hq
  unfold ckBContains at h
  split at h
  · cases h
    rename_i n f m g
    refine w49 (fun _ => false) [] rfl hct rfl rfl ?_
    push_cast (config := { maxSteps := 10000000 })
    refine ⟨hq, ?_⟩
    by_cases e : Lib.index (bytesOf n f) (bytesOf m g) = -1
    · rw [e]; rfl
    · rw [decide_eq_true e]; simpa using e
  · cases h
attribute [push_cast] ckBContains
theorem eraseR (l : List Rcd) (a j : Nat) : (l.eraseIdx a).getD j noRec = if j < a then l.getD j noRec else l.getD (j + 1) noRec := by
  rw [List.getD_eq_getElem?_getD, List.getD_eq_getElem?_getD, List.getD_eq_getElem?_getD, List.getElem?_eraseIdx]
  split <;> rfl
theorem insF_in {f g : Nat → V} {o m i : Nat} (h : o ≤ i) (h2 : i < o + m) : insF f o m g i = g (i - o) := by
  unfold insF
  rw [decide_eq_true (show o ≤ i ∧ i < o + m from ⟨h, h2⟩)]; rfl
theorem insF_out {f g : Nat → V} {o m i : Nat} (h : i < o ∨ o + m ≤ i) : insF f o m g i = f i := by
  unfold insF
  rw [decide_eq_false (show ¬ (o ≤ i ∧ i < o + m) by omega)]; rfl
theorem delF {l : List Rcd} {a : Nat} (ha : a < l.length) (Z : Nat → V) {q m : Nat} (hq : q = l.length - 1) (hm : m = 1) : (∀ i, i < l.length - 1 → insF (insF (lsF cRec l) a (l.length - (a + 1)) (shF (lsF cRec l) (a + 1))) q m Z i = lsF cRec (l.eraseIdx a) i) ∧ insF (insF (lsF cRec l) a (l.length - (a + 1)) (shF (lsF cRec l) (a + 1))) q m Z (l.length - 1) = Z 0 := by
  subst hq hm
  refine ⟨fun i hi => ?_, ?_⟩
  · rw [insF_out (.inl hi)]
    by_cases h : i < a
    · rw [insF_out (.inl h)]
      show cRec.enc _ = cRec.enc _
      rw [show cRec.d = noRec from rfl, eraseR, if_pos h]
    · rw [insF_in (by omega) (by omega)]
      unfold shF
      show cRec.enc _ = cRec.enc _
      rw [show cRec.d = noRec from rfl, eraseR, if_neg h, show i - a + (a + 1) = i + 1 by omega]
  · rw [insF_in (Nat.le_refl _) (by omega), Nat.sub_self]
def ckDelRK : List V → List Blk → Option (Prop × V × List Blk)
  | [.vec 159 n, .int .i64 a, .int .i64 c], [.vec 7 k f] => some (k = n ∧ isLs cRec n f ∧ 0 ≤ a ∧ a < n ∧ c = a + 1 ∧ n ≤ 1000000, .sl (n - 1) (lsF cRec ((lsOf cRec n f).eraseIdx a.toNat)), [])
  | _, _ => none
def ckDelR : Cf := ⟨fun | [.vec 159 _, _, _] => [159] | _ => [], ckDelRK⟩
theorem conDelR : FCon pg 50 ckDelR := by
  have hct := ctN_ok pg
  intro args bs q r bs' h hq
  replace h : ckDelRK args bs = some (q, r, bs') := h
  unfold ckDelRK at h
  split at h
  · cases h
    rename_i n a c k f
    refine ⟨rfl, Nat.zero_le _, ?_⟩
    obtain ⟨rfl, hf, ha0, han, rfl, hn⟩ := hq
    show FCall pg 50 [.vec (9159) k, .int .i64 a, .int .i64 (a + 1)] [(9159, .vec 7 k fun j => V.shift (f j))] (.sl (k - 1) (lsF cRec ((lsOf cRec k f).eraseIdx a.toNat))) []
    refine fcall_blk (hm := [(9159, .vec 7 (lsOf cRec k f).length (lsF cRec (lsOf cRec k f)))]) ⟨rfl, ⟨rfl, (lsOf_len k f).symm, fun j hj => by show V.shift (f j) = _; rw [hf.2 j hj]; rfl⟩, trivial⟩ ?_
    have hk := lsOf_len (c := cRec) k f
    generalize lsOf cRec k f = l at hk ⊢
    subst hk
    obtain ⟨a, rfl⟩ : ∃ m : Nat, a = m := ⟨a.toNat, by omega⟩
    rw [Int.toNat_natCast]
    have ha : a < l.length := by omega
    refine fw50 (fun d => decide (d < 9999)) [.frz 9159] rfl hct rfl (by simp) trivial rfl ?_
    push_cast (config := { maxSteps := 10000000 })
    have e1 : ((a : Int) + ((l.length - (a + 1) : Nat) : Int)).toNat = l.length - 1 := by omega
    have e2 : l.length - ((a : Int) + ((l.length - (a + 1) : Nat) : Int)).toNat = 1 := by omega
    refine ⟨⟨Nat.le_refl _, ⟨by omega, by omega⟩, by omega, by omega, by omega⟩, fun h => by omega, fun _ => ⟨by omega, ⟨⟨by omega, by omega⟩, by omega⟩, by omega, ⟨Nat.le_refl _, ⟨by omega, by omega⟩, by omega⟩, fun i hi => ?_, by omega, fun i hi => ?_⟩⟩
    · by_cases h : i < l.length - 1
      · exact (congrArg V.isPure ((delF ha _ e1 e2).1 i h)).trans rfl
      · obtain rfl : i = l.length - 1 := by omega
        exact (congrArg V.isPure (delF ha _ e1 e2).2).trans rfl
    · exact (delF ha _ e1 e2).1 i (by omega)
  · cases h
@[push_cast] theorem delR_ids (n : Nat) (x y : V) : ckDelR.ids [.vec 159 n, x, y] = [159] := rfl
@[push_cast] theorem delR_k (n k : Nat) (a c : Int) (f : Nat → V) : ckDelR.k [.vec 159 n, .int .i64 a, .int .i64 c] [.vec 7 k f] = some (k = n ∧ isLs cRec n f ∧ 0 ≤ a ∧ a < n ∧ c = a + 1 ∧ n ≤ 1000000, .sl (n - 1) (lsF cRec ((lsOf cRec n f).eraseIdx a.toNat)), []) := rfl
/- the same, handed back as a view of the row: for regions that draw their order -/
def delV (l : List Rcd) (a : Nat) : Nat → V := fun i => bif decide (i < l.length - 1) then lsF cRec (l.eraseIdx a) i else .agg [.int .i64 0, .str [], .str [], .int .i64 0, .str [], .nilsl, .nilsl]
def ckDelVK : List V → List Blk → Option (Prop × V × List Blk)
  | [.vec 159 n, .int .i64 a, .int .i64 c], [.vec 7 k f] => some (k = n ∧ isLs cRec n f ∧ 0 ≤ a ∧ a < n ∧ c = a + 1 ∧ n ≤ 1000000, .vv 159 n 7 0 (n - 1), [.vec 7 n (delV (lsOf cRec n f) a.toNat)])
  | _, _ => none
def ckDelV : Cf := ⟨fun | [.vec 159 _, _, _] => [159] | _ => [], ckDelVK⟩
theorem conDelV : FCon pg 50 ckDelV := by
  have hct := ctN_ok pg
  intro args bs q r bs' h hq
  replace h : ckDelVK args bs = some (q, r, bs') := h
  unfold ckDelVK at h
  split at h
  · cases h
    rename_i n a c k f
    refine ⟨rfl, Nat.le_refl _, ?_⟩
    obtain ⟨rfl, hf, ha0, han, rfl, hn⟩ := hq
    show FCall pg 50 [.vec 9159 k, .int .i64 a, .int .i64 (a + 1)] [(9159, .vec 7 k fun j => V.shift (f j))] (.vv 9159 k 7 0 (k - 1)) [(9159, .vec 7 k fun j => V.shift (delV (lsOf cRec k f) a.toNat j))]
    have hk := lsOf_len (c := cRec) k f
    refine fcall_blk (hm := [(9159, .vec 7 (lsOf cRec k f).length (lsF cRec (lsOf cRec k f)))]) ⟨rfl, ⟨rfl, hk.symm, fun j hj => by show V.shift (f j) = _; rw [hf.2 j hj]; rfl⟩, trivial⟩ ?_
    generalize lsOf cRec k f = l at hk ⊢
    subst hk
    obtain ⟨a, rfl⟩ : ∃ m : Nat, a = m := ⟨a.toNat, by omega⟩
    rw [Int.toNat_natCast]
    have ha : a < l.length := by omega
    have hsh : (fun j => V.shift (delV l a j)) = delV l a := by
      funext j
      unfold delV
      cases decide (j < l.length - 1) <;> rfl
    rw [hsh]
    refine fw50 (fun d => decide (d < 9999)) [] rfl hct rfl (by simp) ?_ rfl ?_
    · have hm : ∀ j, V.menInL (idsIn [(9159, Blk.vec 7 l.length (lsF cRec l))]) (delV l a j).flat = true := fun j => by
        unfold delV
        cases decide (j < l.length - 1) <;> rfl
      simp [hlIn, Blk.menIn, hm, idsIn]
    push_cast (config := { maxSteps := 10000000 })
    have e1 : ((a : Int) + ((l.length - (a + 1) : Nat) : Int)).toNat = l.length - 1 := by omega
    have e2 : l.length - ((a : Int) + ((l.length - (a + 1) : Nat) : Int)).toNat = 1 := by omega
    have e3 : a + (l.length - (a + 1)) = l.length - 1 := by omega
    refine ⟨⟨Nat.le_refl _, ⟨by omega, by omega⟩, by omega, by omega, by omega⟩, fun h => by omega, fun _ => ⟨by omega, ⟨⟨by omega, by omega⟩, by omega⟩, by omega, ⟨Nat.le_refl _, ⟨by omega, by omega⟩, by omega⟩, by rw [e3]; rfl, fun i hi => ?_⟩⟩
    unfold delV
    by_cases h : i < l.length - 1
    · rw [decide_eq_true h]
      exact (delF ha _ e1 e2).1 i h
    · rw [decide_eq_false h]
      obtain rfl : i = l.length - 1 := by omega
      exact (delF ha _ e1 e2).2
  · cases h
@[push_cast] theorem delV_ids (n : Nat) (x y : V) : ckDelV.ids [.vec 159 n, x, y] = [159] := rfl
@[push_cast] theorem delV_k (n k : Nat) (a c : Int) (f : Nat → V) : ckDelV.k [.vec 159 n, .int .i64 a, .int .i64 c] [.vec 7 k f] = some (k = n ∧ isLs cRec n f ∧ 0 ≤ a ∧ a < n ∧ c = a + 1 ∧ n ≤ 1000000, .vv 159 n 7 0 (n - 1), [.vec 7 n (delV (lsOf cRec n f) a.toNat)]) := rfl

/- structs within structs are compared cell by cell too -/
section
variable {P : Program}
theorem eqStructN (m : Nat) {t : TypeId} {fields : Array Field} {z cs ds : List V} (h : P.underlying t = some (.struct fields)) (hs : P.stoodInHeld t = false) (hc : chkF P 0 fields.toList z = true) (h1 : eqP z cs) (h2 : eqP cs ds) (xs ys : Array Value)
    (hx : ∀ i, i < cs.length → xs[0 + i]? = some (exV (cs.getD i .any))) (hy : ∀ i, i < ds.length → ys[0 + i]? = some (exV (ds.getD i .any))) (w : World) : (Op.equalIn (m + 1 + 1) t (.agg xs) (.agg ys)).run P w = .ok (eqB cs ds) w := by
  have hl := eqLoop (P := P) m xs ys w fields.toList 0 z cs ds hc h1 h2 hx hy
  rw [Op.equalIn]
  simp only [Sem.run_bind, run_und h, Result.andThen_ok]
  have hp : (Sem.run P program w) = .ok P w := rfl
  rw [hp]
  simp only [Result.andThen_ok, hs, Bool.false_eq_true, if_false]
  rw [← Array.forIn_toList]
  have hl' := hl
  unfold eqBody at hl'
  simp only [Sem.run_bind]
  erw [hl']
  simp only [Result.andThen_ok]
  cases eqB cs ds <;> rfl
def chkF2 (P : Program) : Nat → List Field → List V → Bool
  | _, [], [] => true
  | off, f :: fs, z => f.name != "_" && f.offset == off && (match P.underlying f.type with
    | some (.struct gs) => !P.stoodInHeld f.type && ((P.info? f.type).map (·.size) == some gs.size) && decide (gs.size ≤ z.length) && chkF P 0 gs.toList (z.take gs.size) && chkF2 P (off + gs.size) fs (z.drop gs.size)
    | _ => chkF P off [f] (z.take 1) && chkF2 P (off + 1) fs (z.drop 1))
  | _, _, _ => false
theorem eqP_len : ∀ {z c : List V}, eqP z c → z.length = c.length
  | [], [], _ => rfl
  | [], _ :: _, h => by simp [eqP] at h
  | x :: _, [], h => by cases x <;> simp [eqP] at h
  | x :: z, y :: c, h => by
    have := eqP_len (eqP_cons h).2
    simp [this]
theorem eqP_take : ∀ {z c : List V} (k : Nat), eqP z c → eqP (z.take k) (c.take k)
  | [], [], k, _ => by simp [eqP]
  | [], _ :: _, _, h => by simp [eqP] at h
  | x :: _, [], _, h => by cases x <;> simp [eqP] at h
  | x :: z, y :: c, 0, h => by simp [eqP]
  | x :: z, y :: c, k + 1, h => by
    obtain ⟨a, b⟩ := eqP_cons h
    have := eqP_take k b
    simp only [List.take_succ_cons]
    cases x <;> cases y <;> simp only [eqP] at a ⊢ <;> first | exact ⟨a.1, this⟩ | exact this | exact a.elim
theorem eqP_drop : ∀ {z c : List V} (k : Nat), eqP z c → eqP (z.drop k) (c.drop k)
  | z, c, 0, h => by simpa using h
  | [], [], k + 1, _ => by simp [eqP]
  | [], _ :: _, _, h => by simp [eqP] at h
  | x :: _, [], _, h => by cases x <;> simp [eqP] at h
  | x :: z, y :: c, k + 1, h => by
    simp only [List.drop_succ_cons]
    exact eqP_drop k (eqP_cons h).2
theorem eqB_split : ∀ {c d : List V} (k : Nat), eqP c d → eqB c d = (eqB (c.take k) (d.take k) && eqB (c.drop k) (d.drop k))
  | [], [], k, _ => by simp [eqB]
  | [], _ :: _, _, h => by simp [eqP] at h
  | x :: _, [], _, h => by cases x <;> simp [eqP] at h
  | x :: z, y :: c, 0, h => by simp [eqB]
  | x :: z, y :: c, k + 1, h => by
    obtain ⟨a, b⟩ := eqP_cons h
    simp only [List.take_succ_cons, List.drop_succ_cons]
    rw [eqB_cons a, eqB_cons (cs := z.take k) (ds := c.take k) a, eqB_split k b, Bool.and_assoc]
theorem getD_take {l : List V} {k i : Nat} (h : i < (l.take k).length) : (l.take k).getD i .any = l.getD i .any := by
  rw [List.length_take] at h
  rw [List.getD_eq_getElem?_getD, List.getD_eq_getElem?_getD, List.getElem?_take_of_lt (by omega)]
theorem getD_drop {l : List V} {k i : Nat} : (l.drop k).getD i .any = l.getD (k + i) .any := by
  rw [List.getD_eq_getElem?_getD, List.getD_eq_getElem?_getD, List.getElem?_drop]
theorem part_agg {t : TypeId} {gs : Array Field} {sz : Nat} (h : P.underlying t = some (.struct gs)) (hi : (P.info? t).map (·.size) = some sz) (cs : Array Value) (off : Nat) (w : World) : (part t cs off).run P w = .ok (.agg (cs.extract off (off + sz))) w := by
  have ha : (isAgg t).run P w = .ok true w := by
    unfold isAgg
    simp only [Sem.run_bind, run_und h, Result.andThen_ok]
    rfl
  obtain ⟨i, h1, h2⟩ := Option.map_eq_some_iff.1 hi
  simp only [part, Sem.run_bind, ha, Result.andThen_ok, if_true, run_size h1, h2, Sem.run_pure]
theorem eqLoop2 (n : Nat) (xs ys : Array Value) (w : World) : ∀ (fs : List Field) (off : Nat) (z cs ds : List V), chkF2 P off fs z = true → eqP z cs → eqP cs ds → (∀ i, i < cs.length → xs[off + i]? = some (exV (cs.getD i .any))) → (∀ i, i < ds.length → ys[off + i]? = some (exV (ds.getD i .any))) →
    (forIn fs ((none, ()) : Option Bool × Unit) (eqBody (n + 1 + 1) xs ys)).run P w = .ok (if eqB cs ds then (none, ()) else (some false, ())) w
  | [], off, [], cs, ds, _, h1, h2, _, _ => by
    cases cs with
    | cons c cs => simp [eqP] at h1
    | nil => cases ds with
      | cons d ds => simp [eqP] at h2
      | nil => rfl
  | [], _, _ :: _, _, _, h, _, _, _, _ => by simp [chkF2] at h
  | f :: fs, off, z, cs, ds, h, h1, h2, hx, hy => by
    rw [chkF2] at h
    simp only [Bool.and_eq_true] at h
    obtain ⟨⟨hn, ho⟩, hk⟩ := h
    have ho := eq_of_beq ho
    have hname : f.name ≠ "_" := by simpa using hn
    have step : ∀ k, (∀ zz, zz = z.drop k → chkF2 P (off + k) fs zz = true) → (∃ a b : Value, (part f.type xs f.offset).run P w = .ok a w ∧ (part f.type ys f.offset).run P w = .ok b w ∧ (Op.equalIn (n + 1 + 1) f.type a b).run P w = .ok (eqB (cs.take k) (ds.take k)) w) →
        (forIn (f :: fs) ((none, ()) : Option Bool × Unit) (eqBody (n + 1 + 1) xs ys)).run P w = .ok (if eqB cs ds then (none, ()) else (some false, ())) w := by
      intro k hr ⟨a, b, px, py, he⟩
      have ih := eqLoop2 n xs ys w fs (off + k) (z.drop k) (cs.drop k) (ds.drop k) (hr _ rfl) (eqP_drop k h1) (eqP_drop k h2)
        (fun i hi => by rw [List.length_drop] at hi; rw [getD_drop, Nat.add_assoc]; exact hx _ (by omega)) (fun i hi => by rw [List.length_drop] at hi; rw [getD_drop, Nat.add_assoc]; exact hy _ (by omega))
      rw [List.forIn_cons, eqB_split k h2]
      have hb : (eqBody (n + 1 + 1) xs ys f (none, ())).run P w = .ok (if (!eqB (cs.take k) (ds.take k)) = true then ForInStep.done (some false, ()) else ForInStep.yield (none, ())) w := by
        unfold eqBody
        rw [if_pos hname]
        simp only [Sem.run_bind, px, py, he, Result.andThen_ok]
        cases eqB (cs.take k) (ds.take k) <;> rfl
      simp only [Sem.run_bind, hb, Result.andThen_ok]
      cases hq : eqB (cs.take k) (ds.take k) with
      | false => rfl
      | true => simpa using ih
    split at hk
    · rename_i gs hu
      simp only [Bool.and_eq_true, Bool.not_eq_true', decide_eq_true_eq] at hk
      obtain ⟨⟨⟨⟨k1, k2⟩, k3⟩, k4⟩, k5⟩ := hk
      have k2 := eq_of_beq k2
      have e1 := eqP_len h1
      have e2 := eqP_len h2
      refine step gs.size (fun zz e => by rw [e]; exact k5) ⟨_, _, part_agg hu k2 xs f.offset w, part_agg hu k2 ys f.offset w, ?_⟩
      refine eqStructN n hu k1 k4 (eqP_take _ h1) (eqP_take _ h2) _ _ (fun i hi => ?_) (fun i hi => ?_) w
      · rw [getD_take hi]
        rw [List.length_take] at hi
        have := hx i (by omega)
        rw [ho, Nat.zero_add, Array.getElem?_extract, if_pos]
        · exact this
        · have := (Array.getElem?_eq_some_iff.1 this).1
          omega
      · rw [getD_take hi]
        rw [List.length_take] at hi
        have := hy i (by omega)
        rw [ho, Nat.zero_add, Array.getElem?_extract, if_pos]
        · exact this
        · have := (Array.getElem?_eq_some_iff.1 this).1
          omega
    · simp only [Bool.and_eq_true] at hk
      cases z with
      | nil => simp [chkF] at hk
      | cons v z =>
      cases cs with
      | nil => cases v <;> simp [eqP] at h1
      | cons c cs =>
      cases ds with
      | nil => cases c <;> simp [eqP] at h2
      | cons d ds =>
      have hk1 := hk.1
      simp only [List.take_succ_cons, List.take_zero, chkF, Bool.and_eq_true] at hk1
      obtain ⟨a1, _⟩ := eqP_cons h1
      obtain ⟨b1, _⟩ := eqP_cons h2
      obtain ⟨⟨dsc, u1, u2⟩, he⟩ := eqLeaf (n := n + 1) hk1.1.2 a1 b1 w
      have px := part_run u1 u2 (cs := xs) (off := f.offset) (v := exV c) (by rw [ho]; simpa using hx 0 (by simp)) w
      have py := part_run u1 u2 (cs := ys) (off := f.offset) (v := exV d) (by rw [ho]; simpa using hy 0 (by simp)) w
      exact step 1 (fun zz e => by rw [e]; exact hk.2) ⟨_, _, px, py, by simpa using he⟩
theorem eqOk_struct2 {t : TypeId} {fields : Array Field} {z : V} (h : P.underlying t = some (.struct fields)) (hg : P.eqGuardType P.depth t = false) (hs : P.stoodInHeld t = false) (hz : (ti P t).zero = some z) (hc : chkF2 P 0 fields.toList z.flat = true) : EqOk P t := by
  refine ⟨hg, fun cs ds w h1 h2 => ?_⟩
  unfold zP at h1
  rw [hz] at h1
  have at' : ∀ (l : List V) (i : Nat), i < l.length → ((l.map exV).toArray)[0 + i]? = some (exV (l.getD i .any)) := fun l i hi => by simp [hi]
  have aux : ∀ m, m = 9997 → (Op.equalIn (m + 1 + 1 + 1) t (.agg (cs.map exV).toArray) (.agg (ds.map exV).toArray)).run P w = .ok (eqB cs ds) w := by
    intro m hm
    have hl := eqLoop2 (P := P) m ((cs.map exV).toArray) ((ds.map exV).toArray) w fields.toList 0 z.flat cs ds hc h1 h2 (at' cs) (at' ds)
    clear hm
    rw [Op.equalIn]
    simp only [Sem.run_bind, run_und h, Result.andThen_ok]
    have hp : (Sem.run P program w) = .ok P w := rfl
    rw [hp]
    simp only [Result.andThen_ok, hs, Bool.false_eq_true, if_false]
    rw [← Array.forIn_toList]
    have hl' := hl
    unfold eqBody at hl'
    simp only [Sem.run_bind]
    erw [hl']
    simp only [Result.andThen_ok]
    cases eqB cs ds <;> rfl
  exact aux 9997 rfl
def eqChk2 (P : Program) (t : TypeId) : Bool := match P.underlying t, (ti P t).zero with
  | some (.struct fs), some z => !P.eqGuardType P.depth t && !P.stoodInHeld t && chkF2 P 0 fs.toList z.flat
  | _, _ => false
theorem eqOk2_of {t : TypeId} (h : eqChk2 P t = true) : EqOk P t := by
  unfold eqChk2 at h
  split at h
  · rename_i fs z hu hz
    simp only [Bool.and_eq_true, Bool.not_eq_true'] at h
    exact eqOk_struct2 hu h.1.1 h.1.2 hz h.2
  · cases h
end

@[push_cast] theorem eqHmT : EqOk Tryz.prog 75 = True := eq_true (eqOk2_of (by kernel_rfl))
def ckEqHm : Ck
  | [.sl n f, .sl m g] => some (isLs cHm n f ∧ isLs cHm m g ∧ n ≤ 4611686018427387904, .bool (decide (lsOf cHm n f = lsOf cHm m g)))
  | _ => none
theorem conEqHm : Con pg 44 ckEqHm := by
  have hct := ctN_ok pg
  intro args q r h hq
  unfold ckEqHm at h
  split at h
  · cases h
    rename_i n f m g
    refine pcall_args (args' := [.sl (lsOf cHm n f).length (lsF cHm (lsOf cHm n f)), .sl (lsOf cHm m g).length (lsF cHm (lsOf cHm m g))]) ⟨isLs.vle hq.1, isLs.vle hq.2.1, trivial⟩ ?_
    have hn : (lsOf cHm n f).length ≤ 4611686018427387904 := by rw [lsOf_len]; exact hq.2.2
    generalize lsOf cHm n f = a at hn ⊢
    generalize lsOf cHm m g = b
    refine w44 (fun _ => false) [] rfl hct rfl rfl ?_
    push_cast (config := { maxSteps := 10000000 })
    refine ⟨fun h => ?_, fun h => ?_⟩
    · exact (decide_eq_false fun e => h (by rw [e])).symm
    refine LoopW.adj ⟨hct, fol⟩ (by kernel_rfl) [] (fun i : Nat => [(0, .sl a.length (lsF cHm a)), (1, .sl b.length (lsF cHm b)), (12, .int .i64 a.length), (13, .int .i64 i)]) (fun _ => []) (fun i => i ≤ a.length ∧ ∀ j, j < i → a.getD j noHm = b.getD j noHm) (fun i => a.length - i) 0 ?_ fun i hi => ?_
    · push_cast (config := { maxSteps := 10000000 })
      exact Nat.zero_le _
    · push_cast (config := { maxSteps := 10000000 })
      obtain ⟨h1, h2⟩ := hi
      refine ⟨fun hlt => ⟨hlt, by omega, fun hne => ?_, fun he => ⟨⟨by omega, by omega⟩, i + 1, ⟨by omega, fun j hj => ?_⟩, by omega, by omega⟩⟩, fun hge => ?_⟩
      · exact (decide_eq_false (ne_at (d := noHm) (i := i) fun e => hne (by rw [e]) (by rw [e]))).symm
      · by_cases e : j = i
        · subst e
          have e1 : ∀ x y : Hm, x.fr = y.fr → x.en = y.en → x = y := fun x y h' h'' => by cases x; cases y; simp_all
          exact e1 _ _ he.1 he.2
        · exact h2 j (by omega)
      · exact (decide_eq_true (eq_take (d := noHm) (by omega) fun j hj => h2 j (by omega))).symm
  · cases h
attribute [push_cast] ckEqHm

def offL (l : List Rcd) (i : Nat) : Nat := (fileB (l.take i)).length
theorem off_succ {l : List Rcd} {i : Nat} (h : i < l.length) : offL l (i + 1) = offL l i + (recB (l.getD i noRec)).length := by
  unfold offL
  rw [takeG (d := noRec) h, fileB_app]
  simp [fileB]
theorem off_drop {l : List Rcd} {i : Nat} (h : i < l.length) : (fileB l).drop (offL l i) = recB (l.getD i noRec) ++ fileB (l.drop (i + 1)) := by
  have e : fileB l = fileB (l.take i) ++ fileB (l.drop i) := by rw [← fileB_app, List.take_append_drop]
  unfold offL
  conv => lhs; rw [e]
  rw [List.drop_left, dropG (d := noRec) h, fileB]
theorem off_le (l : List Rcd) (i : Nat) : offL l i ≤ (fileB l).length := by
  have e : fileB l = fileB (l.take i) ++ fileB (l.drop i) := by rw [← fileB_app, List.take_append_drop]
  rw [e, List.length_append]; unfold offL; omega
theorem marksL_len : ∀ (a : Nat) (l : List Rcd), (marksL a l).length = l.length
  | a, [] => rfl
  | a, r :: t => by rw [marksL, List.length_cons, marksL_len, List.length_cons]
theorem marksL_at : ∀ (a : Nat) (l : List Rcd) (i : Nat), i < l.length → (marksL a l).getD i noMk = ⟨(l.getD i noRec).id, ((a + offL l i : Nat) : Int), ((a + offL l (i + 1) : Nat) : Int)⟩
  | a, [], i, h => by simp at h
  | a, r :: t, 0, h => by simp [marksL, offL, fileB]
  | a, r :: t, i + 1, h => by
    have := marksL_at (a + (recB r).length) t i (by simpa using h)
    rw [marksL, List.getD_cons_succ, this]
    simp only [List.getD_cons_succ, offL, List.take_succ_cons, fileB, List.length_append]
    congr 2 <;> omega
def ckLawMR : Ck
  | [.sl n f] => some (isLv cRec n f ∧ recsOk (lsOf cRec n f), .bool true)
  | _ => none
theorem conLawMR : Con pg 10 ckLawMR := by
  have hct := (ctA_ok conFileBytes (ctA_ok conMarks (ctA_ok conReadOne (ctA_ok conSame6 (ctA_ok conAwake6 (ctN_ok _))))))
  intro args q r h hq
  unfold ckLawMR at h
  split at h
  · cases h
    rename_i n f
    refine pcall_args (args' := [.sl (lsOf cRec n f).length (lsF cRec (lsOf cRec n f))]) ⟨hq.1, trivial⟩ ?_
    obtain ⟨-, ha⟩ := hq
    generalize lsOf cRec n f = l at ha ⊢
    refine w10 (fun _ => false) [] rfl hct rfl rfl ?_
    push_cast (config := { maxSteps := 10000000 })
    refine ⟨ha, fun h => by unfold fileR; rw [if_neg h]; rfl, fun h => ?_⟩
    have hf : fileR l = fileB l := by unfold fileR; rw [if_pos h]
    have hx := file_back h
    obtain ⟨f1, f2, f3⟩ := file_ok h
    rw [hf, hx]
    have hml := marksL_len 0 l
    refine ⟨by omega, fun h => ?_, fun _ => ?_⟩
    · rcases h with h | h
      · exact h rfl
      · exact h hml
    refine LoopW.adj ⟨hct, fol⟩ (by kernel_rfl) [] (fun t : Nat => [(0, .sl l.length (lsF cRec l)), (3, .sl (fileB l).length (byF (fileB l))), (5, .sl (marksL 0 l).length (lsF cMk (marksL 0 l))), (6, .int .i64 (offL l t)), (7, .int .i64 t)]) (fun t => []) (fun t => t ≤ l.length) (fun t => l.length - t) 0 ?_ fun t ht => ?_
    · push_cast (config := { maxSteps := 10000000 })
      exact ⟨Nat.zero_le _, by simp [offL, fileB]⟩
    · have ht : t ≤ l.length := ht
      push_cast (config := { maxSteps := 10000000 })
      refine ⟨fun hlt => ?_, fun hge => ?_⟩
      · have hlt' : t < l.length := by omega
        have hm := marksL_at 0 l t hlt'
        have hr : rdOneR (fileB l) (offL l t) = (l.getD t noRec, ((offL l (t + 1) : Nat) : Int), 0) := by
          have hmem : l.getD t noRec ∈ l := by rw [List.getD_eq_getElem?_getD, List.getElem?_eq_getElem hlt']; exact List.getElem_mem hlt'
          have hb := rd_back (f1 _ hmem) (off_le l t) (off_drop hlt')
          have := off_le l t
          unfold rdOneR
          rw [if_neg (by omega), Int.toNat_natCast, hb, off_succ hlt']
        have hh := (recsOk_at ha hlt').2.2.2.2.1
        rw [hm]
        dsimp only
        rw [Nat.zero_add, Nat.zero_add, hr]
        dsimp only
        refine ⟨hlt, by omega, fun _ => ⟨rfl, hlt⟩, fun _ => ⟨⟨rfl, rfl⟩, hlt⟩, fun _ => ⟨⟨⟨rfl, rfl⟩, rfl⟩, hlt⟩, fun _ => ⟨⟨⟨rfl, rfl⟩, rfl⟩, hlt'⟩, fun _ => ⟨⟨⟨⟨rfl, rfl⟩, rfl⟩, rfl⟩, hlt'⟩, fun _ => ⟨⟨⟨⟨rfl, rfl⟩, rfl⟩, rfl⟩, by omega⟩, fun h => ?_, fun _ => ⟨⟨by omega, by omega⟩, t + 1, by omega, by omega, rfl, rfl⟩⟩
        rcases h with (((h | h) | h) | h) | h <;> exact h rfl
      · rw [hml] at hge
        unfold offL
        rw [List.take_of_length_le (by omega)]
  · cases h
attribute [push_cast] ckLawMR
theorem allLawMR {H : Type} (ds : List (DataW H)) (hh : hasD [.list (.tup [.int .i64, .str, .str, .int .i64, .str, .list (.tup [.str, .str]), .list (.int .u8)])] ds) : PCall pg 10 (ds.map toV) (.bool true) := by
  obtain ⟨d1, rfl, a⟩ := hasD1 hh
  obtain ⟨n, f, e1, i1, b1, k1⟩ := shRecs a
  simp only [List.map_cons, List.map_nil, e1]
  exact conLawMR _ _ _ rfl ⟨i1, k1⟩

def ckLawRO : Ck
  | [.sl n f, .int .i64 k, .int .i64 a, .int .u8 y] => some ((isLv cRec n f ∧ recsOk (lsOf cRec n f)) ∧ 0 ≤ y ∧ y < 256, .bool true)
  | _ => none
theorem conLawRO : Con pg 14 ckLawRO := by
  have hct := (ctA_ok conFileBytes (ctA_ok conRescued (ctA_ok conMarks (ctA_ok conSameAll (ctA_ok conAwake6 (ctW_ok conCloneByN (ctW_ok conCloneRec (ctF_ok conDelV (ctA_ok conBContains (ctN_ok _))))))))))
  intro args q r h hq
  unfold ckLawRO at h
  split at h
  · cases h
    rename_i n f k a y
    refine pcall_args (args' := [.sl (lsOf cRec n f).length (lsF cRec (lsOf cRec n f)), .int .i64 k, .int .i64 a, .int .u8 y]) ⟨hq.1.1, VLe.refl _, VLe.refl _, VLe.refl _, trivial⟩ ?_
    obtain ⟨⟨-, ha⟩, y0, y1⟩ := hq
    generalize lsOf cRec n f = l at ha ⊢
    refine w14 (fun d => decide (d = 127 ∨ d = 20013 ∨ d = 20014 ∨ d = 20017)) [] rfl hct rfl rfl ?_
    push_cast (config := { maxSteps := 10000000 })
    refine ⟨ha, fun h => by unfold fileR; rw [if_neg h]; rfl, fun h => ?_⟩
    have hf : fileR l = fileB l := by unfold fileR; rw [if_pos h]
    have hx := file_back h
    have hy := resc_file h
    obtain ⟨f1, f2, f3⟩ := file_ok h
    rw [hf, hx, hy]
    have hml := marksL_len 0 l
    refine ⟨by omega, fun _ => ⟨⟨rfl, rfl⟩, by show l.length ≤ 1000000; omega, fun r hr => by have := (ha r hr).2.2.2.2.1; omega⟩, fun h => ?_, fun _ => ⟨fun h => ⟨h, by omega, by omega⟩, fun h => ⟨by omega, fun h2 => ?_, fun _ => ?_⟩⟩⟩
    · rcases h with (h | h) | h
      · exact h rfl
      · exact h rfl
      · exact h rfl
    · rcases h2 with h2 | h2
      · exact h2 rfl
      · exact h2 hml
    obtain ⟨⟨⟨⟨k0, k1⟩, a0⟩, a1⟩, yne⟩ := h
    obtain ⟨k, rfl⟩ : ∃ j : Nat, k = j := ⟨k.toNat, by omega⟩
    obtain ⟨a, rfl⟩ : ∃ j : Nat, a = j := ⟨a.toNat, by omega⟩
    rw [Int.toNat_natCast] at a1
    refine SeqW.cut ⟨hct, fol⟩ (by kernel_rfl) (by kernel_rfl) [] (fun _ : Unit => [(0, .sl l.length (lsF cRec l)), (1, .int .i64 k), (2, .int .i64 a), (3, .int .u8 y), (13, .sl (marksL 0 l).length (lsF cMk (marksL 0 l))), (14, .vec 89 (fileB l).length)]) (fun _ => [(89, .vec 1 (fileB l).length (byF (fileB l)))]) (fun _ => True) ?_ fun t _ => ?_
    · push_cast (config := { maxSteps := 10000000 })
      exact ⟨by omega, (), trivial⟩
    have k' : k < l.length := by omega
    have a' : a < (l.getD k noRec).bd.length := by omega
    have hm := marksL_at 0 l k k'
    rw [Nat.zero_add, Nat.zero_add] at hm
    have hs := off_succ k'
    have hbd := recB_bd (l.getD k noRec)
    have hle := off_le l (k + 1)
    refine SeqW.cut ⟨hct, fol⟩ (by kernel_rfl) (by kernel_rfl) [.frz 89] (fun C : List UInt8 => [(0, .sl l.length (lsF cRec l)), (1, .int .i64 k), (13, .sl (marksL 0 l).length (lsF cMk (marksL 0 l))), (14, .sl C.length (byF C))]) (fun C => []) (fun C => ∃ d, C = (fileB l).set (offL l (k + 1) - 4 - (l.getD k noRec).bd.length + a) d ∧ d ≠ (fileB l).getD (offL l (k + 1) - 4 - (l.getD k noRec).bd.length + a) 0) ?_ fun C hC => ?_
    · obtain ⟨d, d1, d2⟩ := xor8 ((fileB l).getD (offL l (k + 1) - 4 - (l.getD k noRec).bd.length + a) 0) y y0 y1 yne
      have hp : (((offL l (k + 1) : Nat) : Int) - 4 - (((l.getD k noRec).bd.length : Nat) : Int) + ((a : Nat) : Int)).toNat = offL l (k + 1) - 4 - (l.getD k noRec).bd.length + a := by omega
      push_cast (config := { maxSteps := 10000000 })
      rw [hm]
      dsimp only
      rw [hp]
      have key : ∀ i, i < (fileB l).length → setF (byF (fileB l)) (offL l (k + 1) - 4 - (l.getD k noRec).bd.length + a) (V.int .u8 (bitsI .xor .u8 ((((fileB l).getD (offL l (k + 1) - 4 - (l.getD k noRec).bd.length + a) 0).toNat : Nat) : Int) y)) i = byF ((fileB l).set (offL l (k + 1) - 4 - (l.getD k noRec).bd.length + a) d) i := fun i hi => by
        rw [d1]
        unfold setF byF
        by_cases e : i = offL l (k + 1) - 4 - (l.getD k noRec).bd.length + a
        · rw [decide_eq_true e, cond_true, List.getD_eq_getElem?_getD, e, List.getElem?_set_self (by omega)]; rfl
        · rw [decide_eq_false e, cond_false, List.getD_eq_getElem?_getD, List.getD_eq_getElem?_getD, List.getElem?_set_ne (fun x => e x.symm)]
      refine ⟨by omega, ⟨by omega, by omega⟩, k', ⟨by omega, by omega⟩, ⟨by omega, by omega⟩, ⟨by omega, by omega⟩, by omega, ⟨by omega, by omega⟩, by omega, (fileB l).set (offL l (k + 1) - 4 - (l.getD k noRec).bd.length + a) d, ⟨d, rfl, d2⟩, fun i hi => ?_, by simp, key⟩
      exact (congrArg V.isPure (key i hi)).trans rfl
    · obtain ⟨d, rfl, d2⟩ := hC
      have hCl : ((fileB l).set (offL l (k + 1) - 4 - (l.getD k noRec).bd.length + a) d).length = (fileB l).length := by simp
      obtain ⟨sp1, sp2⟩ := set_parts d k' a'
      have ep : (fileB (l.take k)).length + (recB (l.getD k noRec)).length - 4 - (l.getD k noRec).bd.length + a = offL l (k + 1) - 4 - (l.getD k noRec).bd.length + a := by rw [hs]; rfl
      rw [ep] at sp1 sp2
      generalize hCC : (fileB l).set (offL l (k + 1) - 4 - (l.getD k noRec).bd.length + a) d = C at sp1 hCl ⊢
      push_cast (config := { maxSteps := 10000000 })
      rw [hm]
      dsimp only
      rw [show ((offL l (k + 1) : Nat) : Int).toNat - (((offL l k : Nat) : Int) + 1).toNat = (recB (l.getD k noRec)).length - 1 by omega, show (((offL l k : Nat) : Int) + 1).toNat = offL l k + 1 by omega]
      have b1 : ByI ((recB (l.getD k noRec)).length - 1) (shF (byF C) (offL l k + 1)) ((C.drop (offL l k + 1)).take ((recB (l.getD k noRec)).length - 1)) := ByI.sh (ByI.by C) (by omega)
      have b2 : ByI 6 (fun i => V.kill 127 (litF [V.int IntKind.u8 75, V.int IntKind.u8 69, V.int IntKind.u8 80, V.int IntKind.u8 84, V.int IntKind.u8 47, V.int IntKind.u8 49] i)) wKept0 := ⟨rfl, fun i hi => by
        match i, hi with
        | 0, _ => rfl
        | 1, _ => rfl
        | 2, _ => rfl
        | 3, _ => rfl
        | 4, _ => rfl
        | 5, _ => rfl⟩
      rw [b1.bytes, b2.bytes]
      refine ⟨by omega, ⟨by omega, by omega⟩, by omega, ⟨⟨by omega, by omega⟩, ⟨by omega, by omega⟩, by omega⟩, ⟨b1.is, b2.is, by omega⟩, fun i hi => b2.pure i hi, fun hc => ?_⟩
      have hc := Classical.not_not.1 hc
      have h4 : C.drop (offL l k + (recB (l.getD k noRec)).length - 4) = crlf2 ++ fileB (l.drop (k + 1)) := by
        have hl2 : (lnsB (l.getD k noRec) []).length + ((l.getD k noRec).bd.length + 4) = (recB (l.getD k noRec)).length := by
          have := congrArg List.length (recB_lns (l.getD k noRec) [])
          rw [lnsB_app] at this
          simpa [crlf2] using this.symm
        have e1 : C = (fileB (l.take k) ++ (lnsB (l.getD k noRec) [] ++ ((l.getD k noRec).bd.take a ++ d :: (l.getD k noRec).bd.drop (a + 1)))) ++ (crlf2 ++ fileB (l.drop (k + 1))) := by
          rw [sp1, lnsB_app]
          simp only [List.append_assoc]
        have e2 : (fileB (l.take k) ++ (lnsB (l.getD k noRec) [] ++ ((l.getD k noRec).bd.take a ++ d :: (l.getD k noRec).bd.drop (a + 1)))).length = offL l k + (recB (l.getD k noRec)).length - 4 := by
          simp only [List.length_append, List.length_cons, List.length_take, List.length_drop]
          unfold offL
          omega
        rw [e1, ← e2, List.drop_left]
      have hres := resc_other h k' (u := (l.getD k noRec).bd.take a) (v := (l.getD k noRec).bd.drop (a + 1)) (c := (l.getD k noRec).bd.getD a 0) (d := d) (C := C) (by
        rw [← dropG (d := (0 : UInt8)) a', List.take_append_drop]) (fun e => d2 (by rw [sp2]; exact e.symm)) sp1 (hk_of h4 (by omega) hc)
      refine SeqW.cut ⟨hct, fol⟩ (by kernel_rfl) (by kernel_rfl) [] (fun R : List Rcd × List Hm × Int => [(0, .sl l.length (lsF cRec l)), (1, .int .i64 k), (13, .sl (marksL 0 l).length (lsF cMk (marksL 0 l))), (10, .int .i64 R.2.2), (11, .sl R.1.length (lsF cRec R.1)), (12, .sl R.2.1.length (lsF cHm R.2.1))]) (fun C => []) (fun R => R = rescL C) ?_ fun R hR => ?_
      · push_cast (config := { maxSteps := 10000000 })
        exact ⟨by omega, rescL C, rfl, rfl, ⟨rfl, fun _ _ => rfl⟩, rfl, fun _ _ => rfl⟩
      · rw [hres] at hR
        subst hR
        push_cast (config := { maxSteps := 10000000 })
        have g1 : (((fileB (List.take k l)).length : Nat) : Int) = ((marksL 0 l).getD k noMk).fr := by rw [hm]; rfl
        have g2 : (((fileB (List.take k l)).length : Nat) : Int) + (((recB (l.getD k noRec)).length : Nat) : Int) = ((marksL 0 l).getD k noMk).en := by
          rw [hm]
          show _ = ((offL l (k + 1) : Nat) : Int)
          rw [hs]
          unfold offL
          omega
        have hE : LsI cRec (l.length - 1) (shF (delV l k) 0) (l.eraseIdx k) := by
          refine ⟨(List.length_eraseIdx_of_lt k').symm, fun i hi => ?_⟩
          show delV l k (i + 0) = _
          unfold delV
          rw [Nat.add_zero, decide_eq_true hi, cond_true]
        have hP : ∀ i, i < l.length → (delV l k i).isPure = true := fun i _ => by
          unfold delV
          cases decide (i < l.length - 1) <;> rfl
        have hr : ∀ r ∈ l.eraseIdx k, r.hd.length ≤ 4611686018427387904 := fun r hr => by have := (ha r ((List.eraseIdx_sublist l k).subset hr)).2.2.2.2.1; omega
        have hx2 : (l.eraseIdx k).length ≤ 1000000 := by have := List.length_eraseIdx_le l k; omega
        have hIs := hE.is
        have hOf := hE.of
        have hkm : k < (marksL 0 l).length := by omega
        have hl6 : l.length ≤ 1000000 := by omega
        have hk1 : (-9223372036854775808 : Int) ≤ (k : Int) + 1 ∧ (k : Int) + 1 ≤ 9223372036854775807 := by omega
        rw [← g1, ← g2, hOf]
        simp only [hkm, hl6, hk1.1, hk1.2, k', hIs, hx2, true_and, and_true, and_self, true_implies, not_true_eq_false, false_implies, implies_true]
        exact ⟨hr, hP⟩
  · cases h
attribute [push_cast] ckLawRO
theorem allLawRO {H : Type} (ds : List (DataW H)) (hh : hasD [.list (.tup [.int .i64, .str, .str, .int .i64, .str, .list (.tup [.str, .str]), .list (.int .u8)]), .int .i64, .int .i64, .int .u8] ds) : PCall pg 14 (ds.map toV) (.bool true) := by
  obtain ⟨d1, d2, d3, d4, rfl, a, b, c, d⟩ := hasD4 hh
  obtain ⟨n, f, e1, i1, b1, k1⟩ := shRecs a
  obtain ⟨k, e2, c2⟩ := shInt b
  obtain ⟨j, e3, c3⟩ := shInt c
  obtain ⟨y, e4, c4⟩ := shInt d
  have hy : 0 ≤ y ∧ y < 256 := by
    simp only [Lit.wf, Bool.and_eq_true, decide_eq_true_eq] at c4
    have e1 : IntKind.u8.min = 0 := rfl
    have e2 : IntKind.u8.max = 255 := rfl
    omega
  simp only [List.map_cons, List.map_nil, e1, e2, e3, e4]
  exact conLawRO _ _ _ rfl ⟨⟨i1, k1⟩, hy⟩

end Go.Abs
