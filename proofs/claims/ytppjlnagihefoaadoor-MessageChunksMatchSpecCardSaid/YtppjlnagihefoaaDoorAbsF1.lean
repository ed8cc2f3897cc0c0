/- what functions of this program compute: contracts, each a function's own -/
import Derived.Test.YtppjlnagihefoaaDoorAbsA44
import Derived.Test.YtppjlnagihefoaaDoorAbsFacts
import Derived.Test.YtppjlnagihefoaaDoorAbsP0
import Derived.Test.YtppjlnagihefoaaDoorAbsShelf
import Derived.Lib.Walk
import Derived.Lib.BitFns
import Derived.Lib.TrailingZeros
import Derived.Lib.ItoaLen
namespace Go.Abs
open Go Go.Proofs
set_option maxHeartbeats 4000000
set_option maxRecDepth 100000
set_option linter.unusedVariables false
set_option linter.unusedSimpArgs false
def lowB (c : UInt8) : UInt8 := if 65 ≤ c.toNat ∧ c.toNat ≤ 90 then UInt8.ofNat (c.toNat + 32) else c
def lowL (s : List UInt8) : List UInt8 := s.map lowB
def ckSmall : Ck
  | [.str s] => some (s.length ≤ 140737488355328, .str (lowL s))
  | _ => none
theorem low_at (s : List UInt8) (i j : Nat) : (lowL (s.take i) ++ s.drop i).getD j 0 = if j < i then (if j < s.length then lowB (s.getD j 0) else 0) else s.getD j 0 := by
  unfold lowL
  simp only [List.getD_eq_getElem?_getD]
  by_cases h : j < s.length
  · by_cases h1 : j < i
    · rw [List.getElem?_append_left (by simp; omega), if_pos h1, if_pos h]
      simp [h1, h]
    · rw [List.getElem?_append_right (by simp; omega), if_neg h1, List.getElem?_drop]
      simp only [List.length_map, List.length_take]
      rw [show i + (j - min i s.length) = j by omega]
  · rw [List.getElem?_eq_none (by simp; omega), List.getElem?_eq_none (by omega), if_neg h]
    split <;> rfl
theorem low_len (s : List UInt8) (i : Nat) : (lowL (s.take i) ++ s.drop i).length = s.length := by simp [lowL]; omega
theorem low_by (s : List UInt8) (i : Nat) {j : Nat} (hj : j < s.length) : byF (lowL (s.take i) ++ s.drop i) j = .int .u8 (if j < i then lowB (s.getD j 0) else s.getD j 0).toNat := by
  unfold byF
  rw [low_at, if_pos hj]
theorem byF_app (s t : List UInt8) (j : Nat) : byF (s ++ t) j = .int .u8 ((s ++ t).getD j 0).toNat := rfl
theorem conSmall : Con pg 39 ckSmall := by
  have hct := ctN_ok pg
  intro args q r h hq
  unfold ckSmall at h
  split at h
  · cases h
    rename_i s
    refine w39 (fun _ => false) [] rfl hct rfl rfl ?_
    push_cast (config := { maxSteps := 10000000 })
    refine LoopW.adj ⟨hct, fol⟩ (by kernel_rfl) [] (fun i : Nat => [(0, .str s), (3, .vec 6 s.length), (4, .int .i64 i)]) (fun i => [(6, .vec 1 s.length (byF (lowL (s.take i) ++ s.drop i)))]) (fun i => i ≤ s.length) (fun i => s.length - i) 0 ?_ fun i hi => ?_
    · push_cast (config := { maxSteps := 10000000 })
      exact ⟨Nat.zero_le _, fun _ _ => rfl⟩
    · push_cast (config := { maxSteps := 10000000 })
      have e := low_at s i i
      rw [if_neg (Nat.lt_irrefl i)] at e
      rw [e]
      refine ⟨fun h => ⟨h, h, fun h1 => ⟨h1, h⟩, fun h1 => ⟨h1, h⟩, fun h1 => ⟨h, h, h, h, by omega, i + 1, by omega, by omega, by omega, fun j hj => ?_⟩, fun h1 => ⟨by omega, i + 1, by omega, by omega, by omega, fun j hj => ?_⟩⟩, fun h => ?_⟩
      · rw [low_by s (i + 1) hj]
        show setF (byF (lowL (List.take i s) ++ List.drop i s)) i (V.int IntKind.u8 ((((s.getD i 0).toNat : Int) + 32) % 256)) j = _
        unfold setF
        by_cases hji : j = i
        · subst hji
          rw [show decide (j = j) = true by simp, cond_true, if_pos (by omega)]
          have : (lowB (s.getD j 0)).toNat = (s.getD j 0).toNat + 32 := by
            unfold lowB
            rw [if_pos (by omega)]
            rw [UInt8.toNat_ofNat']
            omega
          rw [this]
          congr 1
          omega
        · rw [show decide (j = i) = false by simp [hji], cond_false, low_by s i hj]
          by_cases h3 : j < i
          · rw [if_pos h3, if_pos (by omega)]
          · rw [if_neg h3, if_neg (by omega)]
      · rw [low_by s (i + 1) hj, low_by s i hj]
        by_cases hji : j = i
        · subst hji
          rw [if_neg (Nat.lt_irrefl j), if_pos (by omega)]
          have : lowB (s.getD j 0) = s.getD j 0 := by
            unfold lowB
            rw [if_neg (by omega)]
          rw [this]
        · by_cases h3 : j < i
          · rw [if_pos h3, if_pos (by omega)]
          · rw [if_neg h3, if_neg (by omega)]
      · have : i = s.length := by omega
        subst this
        rw [List.take_length, List.drop_eq_nil_of_le (Nat.le_refl _), List.append_nil]
        have := bytesOf_by (lowL s)
        rw [show (lowL s).length = s.length by simp [lowL]] at this
        exact this
  · cases h
attribute [push_cast] ckSmall

def ckHexValue : Ck
  | [.int .u8 c] => some (0 ≤ c ∧ c < 256, .int .i64 (hx (UInt8.ofNat c.toNat)))
  | _ => none
theorem conHexValue : Con pg 21 ckHexValue := by
  have hct := ctN_ok pg
  intro args q r h hq
  unfold ckHexValue at h
  split at h
  · cases h
    rename_i c
    refine w21 (fun _ => false) [] rfl hct rfl rfl ?_
    push_cast (config := { maxSteps := 10000000 })
    obtain ⟨n, rfl⟩ : ∃ n : Nat, c = n := ⟨c.toNat, by omega⟩
    have e : (UInt8.ofNat n).toNat = n := by simp; omega
    unfold hx
    rw [Int.toNat_natCast, e]
    (repeat' (first | apply And.intro | intro _)) <;> (repeat' split) <;> omega
  · cases h
attribute [push_cast] ckHexValue
def ckIsBegun : Ck
  | [.sl n f, .str w] => some (isBy n f ∧ n ≤ 4611686018427387904 ∧ w.length ≤ 1000, .int .i64 (begF (bytesOf n f) w))
  | _ => none
theorem conIsBegun : Con pg 22 ckIsBegun := by
  have hct := ctN_ok pg
  intro args q r h hq
  unfold ckIsBegun at h
  split at h
  · cases h
    rename_i n f w
    refine pcall_args (args' := [.sl (bytesOf n f).length (byF (bytesOf n f)), .str w]) ⟨hq.1.vle, VLe.refl _, trivial⟩ ?_
    have hn : (bytesOf n f).length ≤ 4611686018427387904 := by rw [bytesOf_len]; exact hq.2.1
    have hw := hq.2.2
    generalize bytesOf n f = s at hn ⊢
    refine w22 (fun _ => false) [] rfl hct rfl rfl ?_
    push_cast (config := { maxSteps := 10000000 })
    refine LoopW.adj ⟨hct, fol⟩ (by kernel_rfl) [] (fun i : Nat => [(0, .sl s.length (byF s)), (1, .str w), (7, .int .i64 w.length), (8, .int .i64 i)]) (fun _ => []) (fun i => i ≤ w.length ∧ i ≤ s.length ∧ begF (s.drop i) (w.drop i) = begF s w) (fun i => w.length - i) 0 ?_ fun i hi => ?_
    · push_cast (config := { maxSteps := 10000000 })
      exact ⟨Nat.zero_le _, Nat.zero_le _⟩
    · push_cast (config := { maxSteps := 10000000 })
      obtain ⟨h1, h2, h3⟩ := hi
      refine ⟨fun hw => ⟨fun hs => ?_, fun hs => ⟨by omega, hw, fun hc => ?_, fun hc => ⟨by omega, i + 1, ⟨by omega, by omega, ?_⟩, by omega, by omega⟩⟩⟩, fun hw => ?_⟩
      · rw [← h3, List.drop_eq_nil_of_le hs, drop_at hw]; rfl
      · rw [← h3, drop_at hw, drop_at (by omega : i < s.length), begF, if_neg (fun e => hc (by rw [e]))]; rfl
      · rw [← h3, drop_at hw, drop_at (by omega : i < s.length), begF, if_pos (UInt8.toNat_inj.1 hc)]
      · rw [← h3, List.drop_eq_nil_of_le (by omega : w.length ≤ i)]
        cases s.drop i <;> rfl
  · cases h
attribute [push_cast] ckIsBegun
def ckReadChunk : Ck
  | [.sl n f] => some (isBy n f ∧ n ≤ 4611686018427000000, .tup [.sl (readL (bytesOf n f)).1.length (byF (readL (bytesOf n f)).1), .int .i64 (readL (bytesOf n f)).2.1, .int .i64 (readL (bytesOf n f)).2.2])
  | _ => none
theorem conReadChunk : Con pg 14 ckReadChunk := by
  have hct := ctA_ok conHexValue (ctA_ok conIsBegun (ctN_ok pg))
  intro args q r h hq
  unfold ckReadChunk at h
  split at h
  · cases h
    rename_i n f
    refine pcall_args (args' := [.sl (bytesOf n f).length (byF (bytesOf n f))]) ⟨hq.1.vle, trivial⟩ ?_
    have hn : (bytesOf n f).length ≤ 4611686018427000000 := by rw [bytesOf_len]; exact hq.2
    generalize bytesOf n f = s at hn ⊢
    refine w14 (fun _ => false) [] rfl hct rfl rfl ?_
    push_cast (config := { maxSteps := 10000000 })
    refine LoopW.adj ⟨hct, fol⟩ (by kernel_rfl) [] (fun t : Nat × Nat => [(0, .sl s.length (byF s)), (5, .int .i64 t.2), (6, .int .i64 t.1)]) (fun _ => []) (fun t => t.1 ≤ s.length ∧ t.2 ≤ 65536 ∧ numF (s.drop t.1) t.1 t.2 = numF s 0 0) (fun t => s.length - t.1) (0, 0) ?_ fun t ht => ?_
    · push_cast (config := { maxSteps := 10000000 })
      exact Nat.zero_le _
    · obtain ⟨i, n⟩ := t
      push_cast (config := { maxSteps := 10000000 })
      obtain ⟨h1, h2, h3⟩ : i ≤ s.length ∧ n ≤ 65536 ∧ numF (s.drop i) i n = numF s 0 0 := ht
      have hh := hx_le (s.getD i 0)
      have hu := u8_lt (s.getD i 0)
      refine ⟨fun hi => ⟨hi, by omega⟩, fun ⟨hi, hc⟩ => ⟨fun hz => ?_, fun hz => ⟨by omega, hi, by omega, by omega, fun hz2 => ?_, fun hz2 => ⟨by omega, (i + 1, 16 * n + hx (s.getD i 0)), ⟨by show i + 1 ≤ s.length; omega, by show 16 * n + hx (s.getD i 0) ≤ 65536; omega, ?_⟩, by show s.length - (i + 1) < s.length - i; omega, by simp, by simp⟩⟩⟩, fun hc => ?_⟩
      · rw [readL_bad (m := 0) (a := i + 1) (h3 ▸ numF_bad hi (by omega) (.inl (by omega)))]; exact ⟨rfl, rfl, rfl⟩
      · rw [readL_bad (m := 0) (a := i + 1) (h3 ▸ numF_bad hi (by omega) (.inr (by omega)))]; exact ⟨rfl, rfl, rfl⟩
      · rw [← h3, numF_next hi (by omega) (by omega)]
      · have e := h3 ▸ numF_end (n := n) h1 (fun hi hh => hc hi (by omega))
        have er := readL_of e.symm.symm
        obtain ⟨d1, d2⟩ := isBy_drop s i h1
        rw [d2]
        refine ⟨fun hl => ?_, fun hl => ⟨fun hz => ?_, fun hz => ⟨h1, ⟨d1, by omega⟩, fun hb => ?_, fun hb => ⟨by omega, by omega, fun hs => ?_, fun hs => ?_⟩⟩⟩⟩
        · rw [er, if_pos hl]; exact ⟨rfl, rfl, rfl⟩
        · rw [er, if_neg hl, if_pos (by omega)]; exact ⟨rfl, rfl, rfl⟩
        · rw [er, if_neg hl, if_neg (by omega), if_pos (show begF (s.drop i) crlf ≠ 0 from fun hh => hb (by rw [show ([13, 10] : List UInt8) = crlf from rfl, hh]; rfl))]; exact ⟨rfl, rfl, rfl⟩
        · have hb' : ¬begF (s.drop i) crlf ≠ 0 := fun hh => hh (by have : begF (s.drop i) crlf = begF (s.drop i) [13, 10] := rfl; omega)
          rw [er, if_neg hl, if_neg (by omega), if_neg hb', if_pos (by omega)]; exact ⟨rfl, rfl, rfl⟩
        · have hb' : ¬begF (s.drop i) crlf ≠ 0 := fun hh => hh (by have : begF (s.drop i) crlf = begF (s.drop i) [13, 10] := rfl; omega)
          rw [if_neg hl, if_neg (by omega), if_neg hb', if_neg (by omega)] at er
          have ei : ((i : Int) + 2 + n).toNat = i + 2 + n := by omega
          rw [ei]
          obtain ⟨d3, d4⟩ := isBy_drop s (i + 2 + n) (by omega)
          rw [d4]
          refine ⟨by omega, by omega, ⟨d3, by omega⟩, fun hb2 => ?_, fun hb2 => ⟨by omega, by omega, by omega, by omega, ?_⟩⟩
          · rw [er, if_pos (show begF (s.drop (i + 2 + n)) crlf ≠ 0 from fun hh => hb2 (by rw [show ([13, 10] : List UInt8) = crlf from rfl, hh]; rfl))]; exact ⟨rfl, rfl, rfl⟩
          · have hb3 : ¬begF (s.drop (i + 2 + n)) crlf ≠ 0 := fun hh => hh (by have : begF (s.drop (i + 2 + n)) crlf = begF (s.drop (i + 2 + n)) [13, 10] := rfl; omega)
            rw [if_neg hb3] at er
            rw [er]
            have b := ByI.sh (l := i + 2) (k := i + 2 + n - (i + 2)) (ByI.by s) (by omega)
            rw [show i + 2 + n - (i + 2) = n by omega] at b ⊢
            exact ⟨b, by simp, rfl⟩
  · cases h
attribute [push_cast] ckReadChunk

/-- all chunks from a place on -/
def readAll (b : List UInt8) : Nat → Nat → List UInt8 → List UInt8 × Nat × Nat × Nat
  | 0, _, _ => ([], 0, 0, 0)
  | k + 1, a, out =>
    if (readL (b.drop a)).2.2 = 2 then ([], 0, a, 10) else
    if (readL (b.drop a)).2.2 = 1 then (if out.length ≤ 200000 then (out, a, b.length, 15) else ([], 0, 0, 2)) else
    if 0 < (readL (b.drop a)).1.length then readAll b k (a + (readL (b.drop a)).2.1) (out ++ (readL (b.drop a)).1) else
    if 200000 < (out ++ (readL (b.drop a)).1).length then ([], 0, 0, 2) else
    if a + (readL (b.drop a)).2.1 < b.length then (out ++ (readL (b.drop a)).1, a + (readL (b.drop a)).2.1, a + (readL (b.drop a)).2.1, 3) else
    (out ++ (readL (b.drop a)).1, a + (readL (b.drop a)).2.1, 0, 0)
def readC (b : List UInt8) : List UInt8 × Nat × Nat × Nat := readAll b (b.length + 1) 0 []
theorem readL_b (s : List UInt8) : (readL s).2.2 ≤ 2 ∧ ((readL s).2.2 = 0 → (readL s).1.length + 5 ≤ (readL s).2.1 ∧ (readL s).2.1 ≤ s.length) := by
  cases he : numF s 0 0 with
  | mk ok p =>
    obtain ⟨n, i⟩ := p
    cases ok with
    | false => rw [readL_bad he]; simp
    | true =>
      rw [readL_of he]
      have hb1 := begF_b (s.drop i) crlf
      have hb2 := begF_b (s.drop (i + 2 + n)) crlf
      split
      · simp
      · split
        · simp
        · split
          · refine ⟨hb1, fun h => ?_⟩
            rename_i hh
            exact absurd h hh
          · split
            · simp
            · split
              · refine ⟨hb2, fun h => ?_⟩
                rename_i hh
                exact absurd h hh
              · rename_i h
                have hl := begF_len (Classical.not_not.1 h)
                simp only [crlf, List.length_cons, List.length_nil, List.length_drop] at hl
                refine ⟨by simp, fun _ => ⟨?_, ?_⟩⟩
                · simp only [List.length_take, List.length_drop]; omega
                · simp only; omega
def ckReadChunks : Ck
  | [.sl n f] => some (isBy n f ∧ n ≤ 140737488355328, .tup [.sl (readC (bytesOf n f)).1.length (byF (readC (bytesOf n f)).1), .int .i64 (readC (bytesOf n f)).2.1, .int .i64 (readC (bytesOf n f)).2.2.1, .int .i64 (readC (bytesOf n f)).2.2.2])
  | _ => none
theorem conReadChunks : Con pg 7 ckReadChunks := by
  have hct := ctA_ok conReadChunk (ctN_ok pg)
  intro args q r h hq
  unfold ckReadChunks at h
  split at h
  · cases h
    rename_i n f
    refine pcall_args (args' := [.sl (bytesOf n f).length (byF (bytesOf n f))]) ⟨hq.1.vle, trivial⟩ ?_
    have hn : (bytesOf n f).length ≤ 140737488355328 := by rw [bytesOf_len]; exact hq.2
    generalize bytesOf n f = s at hn ⊢
    refine w7 (fun _ => false) [.frz 41] rfl hct rfl rfl ?_
    push_cast (config := { maxSteps := 10000000 })
    refine LoopW.adj ⟨hct, fol⟩ (by kernel_rfl) [.nv 6 41 1 (byF [])] (fun t : Nat × Nat × List UInt8 => [(0, .sl s.length (byF s)), (6, .vec 41 t.2.2.length), (7, .int .i64 t.2.1)]) (fun t => [(41, .vec 1 t.2.2.length (byF t.2.2))]) (fun t => t.2.1 ≤ s.length ∧ t.2.2.length ≤ t.2.1 ∧ s.length - t.2.1 < t.1 ∧ readAll s t.1 t.2.1 t.2.2 = readC s) (fun t => t.1) (s.length + 1, 0, []) ?_ fun t ht => ?_
    · push_cast (config := { maxSteps := 10000000 })
      exact ⟨Nat.zero_le _, Nat.lt_succ_self _, rfl⟩
    · obtain ⟨k, i, l⟩ := t
      obtain ⟨h1, h2, h3, h4⟩ : i ≤ s.length ∧ l.length ≤ i ∧ s.length - i < k ∧ readAll s k i l = readC s := ht
      push_cast (config := { maxSteps := 10000000 })
      obtain ⟨d1, d2⟩ := isBy_drop s i h1
      rw [d2]
      obtain ⟨r1, r2⟩ := readL_b (s.drop i)
      simp only [List.length_drop] at r2
      have bp := ByI.pure (ByI.by l)
      obtain ⟨k, rfl⟩ : ∃ k', k = k' + 1 := ⟨k - 1, by omega⟩
      simp only [readAll] at h4
      generalize readL (s.drop i) = R at h4 r1 r2 ⊢
      obtain ⟨body, long, how⟩ := R
      simp only at h4 r1 r2 ⊢
      have ba := ByI.app (ByI.by l) (ByI.by body) rfl
      refine ⟨h1, ⟨d1, by omega⟩, fun hc => ⟨bp, ?_⟩, fun hc => ⟨fun hd => ⟨bp, ?_⟩, fun hd => ⟨fun he => ⟨bp, ?_⟩, fun he => ⟨by have := r2 (by omega); omega, by have := r2 (by omega); omega, fun hb => ⟨(k, i + long, l ++ body), ⟨by have := r2 (by omega); show i + long ≤ s.length; omega, by have := r2 (by omega); simp; omega, by have := r2 (by omega); show s.length - (i + long) < k; omega, ?_⟩, Nat.lt_succ_self _, ⟨by simp, by simp⟩, ba⟩, fun hb => ⟨fun hl => ⟨ba.pure, ?_⟩, fun hl => ⟨fun hs => ⟨ba.pure, ?_⟩, fun hs => ⟨ba.pure, ?_⟩⟩⟩⟩⟩⟩⟩
      · rw [if_pos (by omega)] at h4
        rw [← h4]; exact ⟨rfl, rfl, rfl, rfl⟩
      · rw [if_neg (by omega), if_pos (by omega), if_pos (by omega)] at h4
        rw [← h4]; exact ⟨⟨rfl, fun _ _ => rfl⟩, rfl, rfl, rfl⟩
      · rw [if_neg (by omega), if_pos (by omega), if_neg (by omega)] at h4
        rw [← h4]; exact ⟨rfl, rfl, rfl, rfl⟩
      · rw [if_neg (by omega), if_neg (by omega), if_pos (by omega)] at h4
        exact h4
      · rw [if_neg (by omega), if_neg (by omega), if_neg (by omega), if_pos (by simp; omega)] at h4
        rw [← h4]; exact ⟨rfl, rfl, rfl, rfl⟩
      · rw [if_neg (by omega), if_neg (by omega), if_neg (by omega), if_neg (by simp; omega), if_pos (by omega)] at h4
        rw [← h4]; exact ⟨ba, by simp, by simp, rfl⟩
      · rw [if_neg (by omega), if_neg (by omega), if_neg (by omega), if_neg (by simp; omega), if_neg (by omega)] at h4
        rw [← h4]; exact ⟨ba, by simp, rfl, rfl⟩
  · cases h
attribute [push_cast] ckReadChunks

theorem conIdxStr : Con pg 61 ckIndexByte := con_IndexByteString (fn := Tryd.f61) (by kernel_rfl) (by kernel_rfl) (by kernel_rfl) (by kernel_rfl) (by kernel_rfl)
theorem conIndexByte1 : Con pg 53 ckIndexByte := by
  intro args q r h hq
  obtain ⟨s, c, rfl, _, rfl⟩ := ckIndexByte_inv h
  refine w53 (fun _ => false) [] rfl (ctA_ok conIdxStr (ctN_ok _)) rfl rfl ?_
  push_cast (config := { maxSteps := 10000000 })
theorem conIndexByte : Con pg 38 ckIndexByte := by
  intro args q r h hq
  obtain ⟨s, c, rfl, _, rfl⟩ := ckIndexByte_inv h
  refine w38 (fun _ => false) [] rfl (ctA_ok conIndexByte1 (ctN_ok _)) rfl rfl ?_
  push_cast (config := { maxSteps := 10000000 })

def unhexI (c : UInt8) : Int := if hx c < 16 then hx c else -1
theorem unhex_key : ∀ n, n < 256 → Lib.indexByte [48, 49, 50, 51, 52, 53, 54, 55, 56, 57, 97, 98, 99, 100, 101, 102] (lowB (UInt8.ofNat n)) = unhexI (UInt8.ofNat n) := by decide
def ckUnhex : Ck
  | [.int .u8 c] => some (0 ≤ c ∧ c < 256, .int .i64 (unhexI (UInt8.ofNat c.toNat)))
  | _ => none
theorem conUnhex : Con pg 30 ckUnhex := by
  have hct := (ctA_ok conSmall (ctA_ok conIndexByte (ctN_ok _)))
  intro args q r h hq
  unfold ckUnhex at h
  split at h
  · cases h
    rename_i c
    refine w30 (fun _ => false) [] rfl hct rfl rfl ?_
    push_cast (config := { maxSteps := 10000000 })
    exact ⟨by simp [lowL], unhex_key c.toNat (by omega)⟩
  · cases h
attribute [push_cast] ckUnhex
theorem hx_zero (c : UInt8) : hx c = 0 ↔ c.toNat = 48 := by unfold hx; (repeat' split) <;> omega
def ckExpects : Ck
  | [.sl n f, .int .i64 a, .str w] => some (isBy n f ∧ n ≤ 4611686018427387904 ∧ w.length ≤ 1000 ∧ 0 ≤ a ∧ a ≤ n,
      .tup [.int .i64 (a + (begN ((bytesOf n f).drop a.toNat) w : Nat)), .bool (begF ((bytesOf n f).drop a.toNat) w == 0), .bool (begF ((bytesOf n f).drop a.toNat) w != 2)])
  | _ => none
theorem conExpects : Con pg 24 ckExpects := by
  have hct := ctN_ok pg
  intro args q r h hq
  unfold ckExpects at h
  split at h
  · cases h
    rename_i n f a w
    refine pcall_args (args' := [.sl (bytesOf n f).length (byF (bytesOf n f)), .int .i64 a, .str w]) ⟨hq.1.vle, VLe.refl _, VLe.refl _, trivial⟩ ?_
    have hl : (bytesOf n f).length = n := bytesOf_len n f
    obtain ⟨_, hn, hw, ha0, ha⟩ := hq
    rw [← hl] at hn ha
    generalize bytesOf n f = s at hn ha ⊢
    obtain ⟨a, rfl⟩ : ∃ a' : Nat, a = a' := ⟨a.toNat, by omega⟩
    refine w24 (fun _ => false) [] rfl hct rfl rfl ?_
    push_cast (config := { maxSteps := 10000000 })
    refine LoopW.adj ⟨hct, fol⟩ (by kernel_rfl) [] (fun i : Nat => [(0, .sl s.length (byF s)), (1, .int .i64 (a + i)), (2, .str w), (9, .int .i64 i)]) (fun _ => []) (fun i => i ≤ w.length ∧ a + i ≤ s.length ∧ begF (s.drop (a + i)) (w.drop i) = begF (s.drop a) w ∧ begN (s.drop (a + i)) (w.drop i) + i = begN (s.drop a) w) (fun i => w.length - i) 0 ?_ fun i hi => ?_
    · push_cast (config := { maxSteps := 10000000 })
      simp; omega
    · push_cast (config := { maxSteps := 10000000 })
      obtain ⟨h1, h2, h3, h4⟩ := hi
      have ei : ((a : Int) + i).toNat = a + i := by omega
      rw [ei]
      refine ⟨fun hw => ⟨fun hs => ?_, fun hs => ⟨by omega, hw, fun hc => ?_, fun hc => ⟨by omega, by omega, i + 1, ⟨by omega, by omega, ?_, ?_⟩, by omega, by omega, by omega⟩⟩⟩, fun hw => ?_⟩
      · rw [drop_at hw, List.drop_eq_nil_of_le (by omega)] at h3 h4
        simp only [begF, begN] at h3 h4
        rw [← h3, ← h4]; exact ⟨by omega, rfl, rfl⟩
      · rw [drop_at hw, drop_at (by omega : a + i < s.length)] at h3 h4
        have hne : s.getD (a + i) 0 ≠ w.getD i 0 := fun e => hc (by rw [e])
        simp only [begF, begN, if_neg hne] at h3 h4
        rw [← h3, ← h4]; exact ⟨by omega, rfl, rfl⟩
      · rw [drop_at hw, drop_at (by omega : a + i < s.length)] at h3
        simp only [begF, if_pos (UInt8.toNat_inj.1 hc)] at h3
        exact h3
      · rw [drop_at hw, drop_at (by omega : a + i < s.length)] at h4
        simp only [begN, if_pos (UInt8.toNat_inj.1 hc)] at h4
        rw [← Nat.add_assoc a i 1]; omega
      · rw [List.drop_eq_nil_of_le (by omega : w.length ≤ i)] at h3 h4
        have e1 : begF (s.drop (a + i)) [] = 0 := by cases s.drop (a + i) <;> rfl
        have e2 : begN (s.drop (a + i)) [] = 0 := by cases s.drop (a + i) <;> rfl
        rw [e1] at h3
        rw [e2] at h4
        rw [← h3, ← h4]; exact ⟨by omega, rfl, rfl⟩
  · cases h
attribute [push_cast] ckExpects
def ckSize : Ck
  | [.sl n f, .int .i64 a] => some (isBy n f ∧ n ≤ 4611686018427387904 ∧ 0 ≤ a ∧ a ≤ n,
      .tup [.int .i64 (numF ((bytesOf n f).drop a.toNat) 0 0).2.1, .int .i64 (a + ((numF ((bytesOf n f).drop a.toNat) 0 0).2.2 : Nat)), .bool ((numF ((bytesOf n f).drop a.toNat) 0 0).1 && decide (0 < (numF ((bytesOf n f).drop a.toNat) 0 0).2.2))])
  | _ => none
theorem conSize : Con pg 23 ckSize := by
  have hct := ctA_ok conUnhex (ctN_ok pg)
  intro args q r h hq
  unfold ckSize at h
  split at h
  · cases h
    rename_i n f a
    refine pcall_args (args' := [.sl (bytesOf n f).length (byF (bytesOf n f)), .int .i64 a]) ⟨hq.1.vle, VLe.refl _, trivial⟩ ?_
    have hl : (bytesOf n f).length = n := bytesOf_len n f
    obtain ⟨_, hn, ha0, ha⟩ := hq
    rw [← hl] at hn ha
    generalize bytesOf n f = s at hn ha ⊢
    obtain ⟨a, rfl⟩ : ∃ a' : Nat, a = a' := ⟨a.toNat, by omega⟩
    refine w23 (fun _ => false) [] rfl hct rfl rfl ?_
    push_cast (config := { maxSteps := 10000000 })
    refine LoopW.adj ⟨hct, fol⟩ (by kernel_rfl) [] (fun t : Nat × Nat => [(0, .sl s.length (byF s)), (1, .int .i64 (a + t.1)), (7, .int .i64 t.2), (8, .int .i64 a)]) (fun _ => []) (fun t => a + t.1 ≤ s.length ∧ t.2 ≤ 65536 ∧ (0 < t.1 → (t.2 = 0 ↔ (s.getD a 0).toNat = 48)) ∧ (t.1 = 0 → t.2 = 0) ∧ numF ((s.drop a).drop t.1) t.1 t.2 = numF (s.drop a) 0 0) (fun t => s.length - t.1) (0, 0) ?_ fun t ht => ?_
    · push_cast (config := { maxSteps := 10000000 })
      simp; omega
    · obtain ⟨i, n⟩ := t
      obtain ⟨h1, h2, h3, h30, h4⟩ : a + i ≤ s.length ∧ n ≤ 65536 ∧ (0 < i → (n = 0 ↔ (s.getD a 0).toNat = 48)) ∧ (i = 0 → n = 0) ∧ numF ((s.drop a).drop i) i n = numF (s.drop a) 0 0 := ht
      push_cast (config := { maxSteps := 10000000 })
      have ei : ((a : Int) + i).toNat = a + i := by omega
      rw [ei]
      have hL : (s.drop a).length = s.length - a := by simp
      have hg : (s.drop a).getD i 0 = s.getD (a + i) 0 := by simp [List.getD_eq_getElem?_getD]
      have hu := u8_lt (s.getD (a + i) 0)
      have hx16 := hx_le (s.getD (a + i) 0)
      have hz := hx_zero (s.getD (a + i) 0)
      have hun : unhexI (s.getD (a + i) 0) = if hx (s.getD (a + i) 0) < 16 then (hx (s.getD (a + i) 0) : Int) else -1 := rfl
      by_cases hc : hx (s.getD (a + i) 0) < 16
      · rw [if_pos hc] at hun
        rw [hun]
        by_cases hi : a + i < s.length
        · refine ⟨fun _ => by omega, fun _ => by omega, fun _ => ⟨by omega, by omega, by omega, by omega, by omega, fun _ => by omega, fun _ => by omega, fun _ => ⟨by omega, fun _ => by omega⟩, fun hb => ?_, fun hb => ⟨(i + 1, 16 * n + hx (s.getD (a + i) 0)), ⟨by show a + (i + 1) ≤ s.length; omega, by show 16 * n + hx (s.getD (a + i) 0) ≤ 65536; omega, fun _ => ?_, fun h => by simp at h, ?_⟩, by show s.length - (i + 1) < s.length - i; omega, by simp; omega, by simp; omega⟩⟩, fun hn => by omega⟩
          · have hbad : (0 < i ∧ n = 0) ∨ 65536 < 16 * n + hx (s.getD (a + i) 0) := by
              by_cases h5 : 65536 < 16 * n + hx (s.getD (a + i) 0)
              · exact .inr h5
              · have h6 : 0 < i := by omega
                have := (h3 h6).2 (by omega)
                exact .inl ⟨h6, this⟩
            rw [← hg] at hc hbad
            have e := numF_bad (s := s.drop a) (by omega) hc hbad
            rw [h4] at e
            simp only [e]
            exact ⟨rfl, by omega, rfl⟩
          · show 16 * n + hx (s.getD (a + i) 0) = 0 ↔ _
            by_cases h6 : 0 < i
            · have h7 := h3 h6
              have : ¬(s.getD a 0).toNat = 48 := by omega
              omega
            · have : i = 0 := by omega
              subst this
              have hn0 : 16 * n + hx (s.getD (a + 0) 0) = 0 ↔ hx (s.getD (a + 0) 0) = 0 ∧ n = 0 := by omega
              have n0 : n = 0 := h30 rfl
              simp only [Nat.add_zero] at *
              omega
          · have hok : ¬((0 < i ∧ n = 0) ∨ 65536 < 16 * n + hx (s.getD (a + i) 0)) := by
              rintro (⟨h6, h7⟩ | h6)
              · have := (h3 h6).1 h7
                omega
              · omega
            rw [← hg] at hc hok
            have e := numF_next (s := s.drop a) (by omega) hc hok
            rw [h4, hg] at e
            exact e.symm
        · refine ⟨fun _ => by omega, fun _ => by omega, fun hh => by omega, fun _ => ?_⟩
          have e := numF_end (s := s.drop a) (i := i) (n := n) (by omega) (fun hh => by omega)
          rw [h4] at e
          simp only [e]
          refine ⟨trivial, trivial, ?_⟩
          simp; omega
      · rw [if_neg hc] at hun
        rw [hun]
        refine ⟨fun _ => by omega, fun _ => by omega, fun hh => by omega, fun _ => ?_⟩
        have e := numF_end (s := s.drop a) (i := i) (n := n) (by omega) (fun hh => by rw [hg]; exact hc)
        rw [h4] at e
        simp only [e]
        refine ⟨trivial, trivial, ?_⟩
        simp; omega
  · cases h
attribute [push_cast] ckSize
/-- a chunk, as the reference tells it: bytes, length, whether it is there, whether what is there is right -/
def refX (b : List UInt8) : List UInt8 × Nat × Bool × Bool :=
  if b.length = 0 then ([], 0, false, true) else
  if (numF b 0 0).1 = false ∨ (numF b 0 0).2.2 = 0 then ([], (numF b 0 0).2.2, false, false) else
  if begF (b.drop (numF b 0 0).2.2) crlf ≠ 0 then ([], (numF b 0 0).2.2 + begN (b.drop (numF b 0 0).2.2) crlf, false, begF (b.drop (numF b 0 0).2.2) crlf != 2) else
  if (b.length : Int) - ((numF b 0 0).2.2 + 2) < (numF b 0 0).2.1 then ([], (numF b 0 0).2.2 + 2, false, true) else
  ((b.drop ((numF b 0 0).2.2 + 2)).take (numF b 0 0).2.1, (numF b 0 0).2.2 + 2 + (numF b 0 0).2.1 + begN (b.drop ((numF b 0 0).2.2 + 2 + (numF b 0 0).2.1)) crlf, begF (b.drop ((numF b 0 0).2.2 + 2 + (numF b 0 0).2.1)) crlf == 0, begF (b.drop ((numF b 0 0).2.2 + 2 + (numF b 0 0).2.1)) crlf != 2)
def ckChunkAt : Ck
  | [.sl n f, .int .i64 a] => some (isBy n f ∧ n ≤ 4611686018427000000 ∧ 0 ≤ a ∧ a ≤ n,
      .tup [.sl (refX ((bytesOf n f).drop a.toNat)).1.length (byF (refX ((bytesOf n f).drop a.toNat)).1), .int .i64 (a + ((refX ((bytesOf n f).drop a.toNat)).2.1 : Nat)), .bool (refX ((bytesOf n f).drop a.toNat)).2.2.1, .bool (refX ((bytesOf n f).drop a.toNat)).2.2.2])
  | _ => none
theorem conChunkAt : Con pg 17 ckChunkAt := by
  have hct := ctA_ok conSize (ctA_ok conExpects (ctN_ok pg))
  intro args q r h hq
  unfold ckChunkAt at h
  split at h
  · cases h
    rename_i n f a
    refine pcall_args (args' := [.sl (bytesOf n f).length (byF (bytesOf n f)), .int .i64 a]) ⟨hq.1.vle, VLe.refl _, trivial⟩ ?_
    have hl : (bytesOf n f).length = n := bytesOf_len n f
    obtain ⟨_, hn, ha0, ha⟩ := hq
    rw [← hl] at hn ha
    generalize bytesOf n f = s at hn ha ⊢
    obtain ⟨a, rfl⟩ : ∃ a' : Nat, a = a' := ⟨a.toNat, by omega⟩
    have ib := isBy_by s
    have ibb := bytesOf_by s
    refine w17 (fun _ => false) [] rfl hct rfl rfl ?_
    push_cast (config := { maxSteps := 10000000 })
    rw [ibb]
    have hL : (s.drop a).length = s.length - a := by simp
    have nb := numF_b (s.drop a) 0 0 (by omega)
    generalize hX : refX (s.drop a) = X
    unfold refX at hX
    have hdd : ∀ j, s.drop (a + j) = (s.drop a).drop j := fun j => by rw [List.drop_drop]
    cases hp : numF (s.drop a) 0 0 with
    | mk ok p =>
    obtain ⟨m, j⟩ := p
    rw [hp] at hX nb
    simp only at hX nb ⊢
    have e1 : ((a : Int) + j).toNat = a + j := by omega
    rw [e1, hdd]
    refine ⟨fun h => ?_, fun h => ⟨⟨ib, by omega, by omega⟩, fun hb => ?_, fun hb => ⟨⟨ib, by omega, by omega, by omega⟩, fun hx => ?_, fun hx => ?_⟩⟩⟩
    · rw [if_pos (by omega)] at hX
      rw [← hX]; simp
    · rw [if_neg (by omega), if_pos (by cases ok <;> simp at hb ⊢; omega)] at hX
      rw [← hX]; simp
    · rw [if_neg (by omega), if_neg (by rw [hb.1]; simp; omega), if_pos (show begF ((s.drop a).drop j) crlf ≠ 0 from hx)] at hX
      rw [← hX]
      exact ⟨rfl, by show _ = (a : Int) + ((j + begN ((s.drop a).drop j) crlf : Nat) : Int); rw [show ([13, 10] : List UInt8) = crlf from rfl]; omega, rfl, rfl⟩
    · have hn2 : begN ((s.drop a).drop j) [13, 10] = 2 := begN_len hx
      have hlen : 2 ≤ ((s.drop a).drop j).length := begF_len hx
      simp only [List.length_drop] at hlen
      rw [hn2]
      rw [if_neg (by omega), if_neg (by rw [hb.1]; simp; omega), if_neg (show ¬begF ((s.drop a).drop j) crlf ≠ 0 from fun h => h hx)] at hX
      have e2 : ((a : Int) + j + (2 : Nat)).toNat = a + j + 2 := by omega
      have e3 : ((a : Int) + j + (2 : Nat) + m).toNat = a + (j + 2 + m) := by omega
      rw [e3, e2, hdd]
      refine ⟨by omega, fun hs => ?_, fun hs => ⟨by omega, by omega, by omega, ⟨ib, by omega, by omega, by omega⟩, ?_⟩⟩
      · rw [if_pos (by rw [hL]; omega)] at hX
        rw [← hX]
        exact ⟨rfl, by simp; omega, rfl, rfl⟩
      · rw [if_neg (by rw [hL]; omega)] at hX
        rw [← hX]
        have b := ByI.sh (l := a + j + 2) (k := a + (j + 2 + m) - (a + j + 2)) (ByI.by s) (by omega)
        rw [show a + (j + 2 + m) - (a + j + 2) = m by omega] at b ⊢
        have e5 : (s.drop (a + j + 2)).take m = ((s.drop a).drop (j + 2)).take m := by rw [show a + j + 2 = a + (j + 2) by omega, hdd]
        rw [e5] at b
        exact ⟨b, by show (a : Int) + j + (2 : Nat) + m + _ = (a : Int) + ((j + 2 + m + begN ((s.drop a).drop (j + 2 + m)) crlf : Nat) : Int); rw [show ([13, 10] : List UInt8) = crlf from rfl]; omega, rfl, rfl⟩
  · cases h
attribute [push_cast] ckChunkAt
theorem ref_read (b : List UInt8) : (refX b).2.2.2 = ((readL b).2.2 != 2) ∧ (refX b).2.2.1 = ((readL b).2.2 == 0) ∧ ((readL b).2.2 = 0 → (refX b).1 = (readL b).1 ∧ (refX b).2.1 = (readL b).2.1) := by
  have hb := begF_b
  cases hp : numF b 0 0 with
  | mk ok p =>
  obtain ⟨n, i⟩ := p
  unfold refX
  rw [hp]
  simp only
  by_cases h0 : b.length = 0
  · have e0 : b = [] := List.length_eq_zero_iff.1 h0
    subst e0
    rw [if_pos h0]
    have : numF [] 0 0 = (true, 0, 0) := rfl
    rw [readL_of this, if_pos rfl]
    simp
  · rw [if_neg h0]
    cases ok with
    | false =>
      rw [if_pos (.inl rfl), readL_bad hp]; simp
    | true =>
      rw [readL_of hp]
      by_cases h1 : i = 0
      · rw [if_pos (.inr h1), if_neg (by omega), if_pos h1]; simp
      · rw [if_neg (by simp [h1])]
        by_cases h2 : i = b.length
        · have e1 : begF (b.drop i) crlf = 1 := by rw [List.drop_eq_nil_of_le (by omega)]; rfl
          rw [if_pos h2, e1, if_pos (by omega)]; simp
        · rw [if_neg h2, if_neg h1]
          by_cases h3 : begF (b.drop i) crlf ≠ 0
          · rw [if_pos h3, if_pos h3]
            refine ⟨rfl, ?_, fun h => absurd h h3⟩
            simp only
            cases h4 : begF (b.drop i) crlf with
            | zero => exact absurd h4 h3
            | succ k => rfl
          · rw [if_neg h3, if_neg h3]
            by_cases h5 : (b.length : Int) - (i + 2) < n
            · rw [if_pos h5, if_pos h5]; simp
            · rw [if_neg h5, if_neg h5]
              by_cases h6 : begF (b.drop (i + 2 + n)) crlf ≠ 0
              · rw [if_pos h6]
                exact ⟨rfl, rfl, fun h => absurd h h6⟩
              · rw [if_neg h6]
                have h7 : begF (b.drop (i + 2 + n)) crlf = 0 := Classical.not_not.1 h6
                have h8 := begN_len h7
                simp only [h7, h8]
                simp [crlf]
theorem conRReadChunks : Con pg 11 ckReadChunks := by
  have hct := ctA_ok conChunkAt (ctN_ok pg)
  intro args q r h hq
  unfold ckReadChunks at h
  split at h
  · cases h
    rename_i n f
    refine pcall_args (args' := [.sl (bytesOf n f).length (byF (bytesOf n f))]) ⟨hq.1.vle, trivial⟩ ?_
    have hn : (bytesOf n f).length ≤ 140737488355328 := by rw [bytesOf_len]; exact hq.2
    generalize bytesOf n f = s at hn ⊢
    have ib := isBy_by s
    have ibb := bytesOf_by s
    refine w11 (fun _ => false) [.frz 51] rfl hct rfl rfl ?_
    push_cast (config := { maxSteps := 10000000 })
    refine LoopW.adj ⟨hct, fol⟩ (by kernel_rfl) [.nv 6 51 1 (byF [])] (fun t : Nat × Nat × List UInt8 => [(0, .sl s.length (byF s)), (6, .vec 51 t.2.2.length), (7, .int .i64 t.2.1)]) (fun t => [(51, .vec 1 t.2.2.length (byF t.2.2))]) (fun t => t.2.1 ≤ s.length ∧ t.2.2.length ≤ t.2.1 ∧ s.length - t.2.1 < t.1 ∧ readAll s t.1 t.2.1 t.2.2 = readC s) (fun t => t.1) (s.length + 1, 0, []) ?_ fun t ht => ?_
    · push_cast (config := { maxSteps := 10000000 })
      exact ⟨Nat.zero_le _, Nat.lt_succ_self _, rfl⟩
    · obtain ⟨k, i, l⟩ := t
      obtain ⟨h1, h2, h3, h4⟩ : i ≤ s.length ∧ l.length ≤ i ∧ s.length - i < k ∧ readAll s k i l = readC s := ht
      push_cast (config := { maxSteps := 10000000 })
      rw [ibb]
      obtain ⟨r1, r2⟩ := readL_b (s.drop i)
      obtain ⟨x1, x2, x3⟩ := ref_read (s.drop i)
      simp only [List.length_drop] at r2
      have bp := ByI.pure (ByI.by l)
      obtain ⟨k, rfl⟩ : ∃ k', k = k' + 1 := ⟨k - 1, by omega⟩
      simp only [readAll] at h4
      generalize readL (s.drop i) = R at h4 r1 r2 x1 x2 x3
      generalize refX (s.drop i) = X at x1 x2 x3 ⊢
      obtain ⟨body, long, how⟩ := R
      obtain ⟨xb, xn, xa, xr⟩ := X
      simp only at h4 r1 r2 x1 x2 x3 ⊢
      subst x1; subst x2
      have c1 : (how != 2) = false → how = 2 := by simp
      have c2 : (how != 2) = true → how ≠ 2 := by simp
      have c3 : (how == 0) = false → how ≠ 0 := by simp
      have c4 : (how == 0) = true → how = 0 := by simp
      have ba := ByI.app (ByI.by l) (ByI.by body) rfl
      refine ⟨⟨ib, by omega, h1⟩, fun hc => ⟨bp, ?_⟩, fun hc => ⟨fun hd => ⟨fun he => ⟨bp, ?_⟩, fun he => ⟨bp, ?_⟩⟩, fun hd => ?_⟩⟩
      · have := c1 hc
        rw [if_pos (by omega)] at h4
        rw [← h4]; exact ⟨rfl, rfl, rfl, rfl⟩
      · have := c2 hc; have := c3 hd
        rw [if_neg (by omega), if_pos (by omega), if_neg (by omega)] at h4
        rw [← h4]; exact ⟨rfl, rfl, rfl, rfl⟩
      · have := c2 hc; have := c3 hd
        rw [if_neg (by omega), if_pos (by omega), if_pos (by omega)] at h4
        rw [← h4]; exact ⟨⟨rfl, fun _ _ => rfl⟩, rfl, rfl, rfl⟩
      · have h0 := c4 hd
        obtain ⟨rfl, rfl⟩ := x3 h0
        have := r2 h0
        rw [if_neg (by omega), if_neg (by omega)] at h4
        refine ⟨by omega, fun hb => ⟨fun hl => ⟨ba.pure, ?_⟩, fun hl => ⟨fun hs => ⟨ba.pure, ?_⟩, fun hs => ⟨ba.pure, ?_⟩⟩⟩, fun hb => ⟨(k, i + xn, l ++ xb), ⟨by show i + xn ≤ s.length; omega, by simp; omega, by show s.length - (i + xn) < k; omega, ?_⟩, Nat.lt_succ_self _, ⟨by simp, by simp⟩, ba⟩⟩
        · rw [if_neg (by omega), if_pos (by simp; omega)] at h4
          rw [← h4]; exact ⟨rfl, rfl, rfl, rfl⟩
        · rw [if_neg (by omega), if_neg (by simp; omega), if_pos (by omega)] at h4
          rw [← h4]; exact ⟨ba, by simp, by simp, rfl⟩
        · rw [if_neg (by omega), if_neg (by simp; omega), if_neg (by omega)] at h4
          rw [← h4]; exact ⟨ba, by simp, rfl, rfl⟩
        · rw [if_pos (by omega)] at h4
          exact h4
  · cases h

theorem tabPow {w : World} (h : pg.ok w) : Lib.TabIs Tryd.prog w "internal/strconv.uint64pow10" .u64 Lib.pow10Tab := by
  obtain ⟨w0, ⟨h1, _⟩, h2⟩ := h
  have h1 : laidMet Tryd.prog laidL w0 := h1
  refine tabIs_same (g := 0) (by kernel_rfl) (by decide) h2 (laidMet_cells (g := 0) (t := 67) (e := 56) (n := 20) (by kernel_rfl) (by kernel_rfl) (by kernel_rfl) (by kernel_rfl) (by kernel_rfl) (by kernel_rfl) laidL ?_ h1)
  first | exact .head _ | exact .tail _ (.head _) | exact .tail _ (.tail _ (.head _)) | exact .tail _ (.tail _ (.tail _ (.head _))) | exact .tail _ (.tail _ (.tail _ (.tail _ (.head _))))
def ckItoa : Ck
  | [.int .i64 n] => some (-9223372036854775808 ≤ n ∧ n ≤ 9223372036854775807, .str (Lib.itoa n))
  | _ => none
theorem conItoa : Con pg 36 ckItoa := by
  intro args q r h hq
  unfold ckItoa at h
  split at h
  · cases h
    refine pcall_shelf (by kernel_rfl) rfl fun w hw => (Tryd.strconv_Itoa _ hq.1 hq.2 w (tabPow hw)).mono fun e w' h => ?_
    obtain ⟨he, k, os, rfl⟩ := h
    exact shelf_str he (grow_drew _ _ _)
  · cases h
attribute [push_cast] ckItoa
def ckRepeat : Ck
  | [.str s, .int .i64 n] => some (0 ≤ n ∧ n ≤ 1000000 ∧ s.length ≤ 1000000, .str (Lib.repeatL s n.toNat))
  | _ => none
theorem conRepeat : Con pg 37 ckRepeat := by
  intro args q r h hq
  unfold ckRepeat at h
  split at h
  · cases h
    rename_i s n
    obtain ⟨k, rfl⟩ : ∃ k : Nat, n = k := ⟨n.toNat, by omega⟩
    refine pcall_shelf (by kernel_rfl) rfl fun w hw => (Tryd.strings_Repeat ⟨s.toArray⟩ k w (by omega) ?_).mono fun e w' h => ?_
    · show s.toArray.size * k ≤ _
      have : s.length * k ≤ 1000000 * 1000000 := Nat.mul_le_mul (by omega) (by omega)
      simp; omega
    · exact shelf_str (by simpa using h.1) (grow_below h.2)
  · cases h
attribute [push_cast] ckRepeat

theorem tabDb64 {w : World} (h : pg.ok w) : Lib.TabIs Tryd.prog w "math/bits.deBruijn64tab" .u8 (Lib.deBruijn64tab.map fun (n : Nat) => (n : Int)) := by
  obtain ⟨w0, ⟨h1, _⟩, h2⟩ := h
  have h1 : laidMet Tryd.prog laidL w0 := h1
  refine tabIs_same (g := 2) (by kernel_rfl) (by decide) h2 (laidMet_cells (g := 2) (t := 92) (e := 5) (n := 64) (by kernel_rfl) (by kernel_rfl) (by kernel_rfl) (by kernel_rfl) (by kernel_rfl) (by kernel_rfl) laidL ?_ h1)
  first | exact .head _ | exact .tail _ (.head _) | exact .tail _ (.tail _ (.head _)) | exact .tail _ (.tail _ (.tail _ (.head _))) | exact .tail _ (.tail _ (.tail _ (.tail _ (.head _))))
theorem tz64_16 (w : World) (hc : w.cell? ⟨2, 15, none⟩ = some (.int .u8 4)) :
    Calls Tryd.prog 55 #[.int .u64 16] w fun e w' => e = .returned (.int .i64 4) ∧ w' = w := by
  have key : IntKind.u64.wrap (bits BinOp.and IntKind.u64 16 (IntKind.u64.wrap (-16)) * 285870213051353865) / 288230376151711744 = 15 := by decide
  go_enter Tryd.func55, Tryd.ntmps55
  go_wp2_with (simp only [key])
  go_ret
  exact ⟨rfl, rfl⟩
def ckTz : Ck
  | [.int .u64 n] => some (n = 16, .int .i64 4)
  | _ => none
theorem conTz64 : Con pg 55 ckTz := by
  intro args q r h hq
  unfold ckTz at h
  split at h
  · cases h
    obtain rfl := hq
    refine pcall_shelf (by kernel_rfl) rfl fun w hw => (tz64_16 w ?_).mono fun e w' h => shelf_int h.1 (grow_eq h.2)
    exact (tabDb64 hw).cell (g := 2) (by kernel_rfl) 15 (by decide)
  · cases h
attribute [push_cast] ckTz
theorem conTz : Con pg 44 ckTz := by
  have hct := (ctA_ok conTz64 (ctN_ok _))
  intro args q r h hq
  unfold ckTz at h
  split at h
  · cases h
    rename_i n
    refine w44 (fun _ => false) [] rfl hct rfl rfl ?_
    push_cast (config := { maxSteps := 10000000 })
    exact hq
  · cases h

def ckPow2 : Ck
  | [.int .i64 n] => some (n = 16, .bool true)
  | _ => none
theorem conPow2 : Con pg 43 ckPow2 := by
  have hct := ctN_ok pg
  intro args q r h hq
  unfold ckPow2 at h
  split at h
  · cases h
    rename_i n
    refine w43 (fun _ => false) [] rfl hct rfl rfl ?_
    push_cast (config := { maxSteps := 10000000 })
    subst hq
    decide
  · cases h
attribute [push_cast] ckPow2
def hexC (n : Nat) : UInt8 := if n < 10 then UInt8.ofNat (48 + n) else UInt8.ofNat (87 + n)
def hexL (u : Nat) : List UInt8 := if h : u < 16 then [hexC u] else hexL (u / 16) ++ [hexC (u % 16)]
termination_by u
decreasing_by omega
def arrV (m : List UInt8) : List V := List.replicate (65 - m.length) (.int .u8 0) ++ m.map fun c => .int .u8 c.toNat
theorem arrV_len {m : List UInt8} (h : m.length ≤ 65) : (arrV m).length = 65 := by simp [arrV]; omega
theorem vle1_refl (x : V) : vle1 x x := by cases x <;> simp [vle1]
theorem vleR_refl (l : List V) : vleR vle1 l l := by
  induction l with
  | nil => trivial
  | cons x l ih => exact ⟨vle1_refl x, ih⟩
theorem setR_arr {m : List UInt8} (h : m.length ≤ 64) (c : UInt8) : setR (arrV m) (64 - m.length) [.int .u8 c.toNat] = arrV (c :: m) := by
  obtain ⟨k, hk⟩ : ∃ k, 64 - m.length = k := ⟨_, rfl⟩
  have e1 : 65 - m.length = k + 1 := by omega
  have e2 : 65 - (c :: m).length = k := by simp; omega
  unfold setR arrV
  rw [e1, e2, hk, List.replicate_succ']
  have t1 : (List.replicate k (V.int .u8 0) ++ [V.int .u8 0] ++ m.map fun c => V.int .u8 c.toNat).take k = List.replicate k (V.int .u8 0) := by
    rw [List.append_assoc, List.take_left' (by simp)]
  have t2 : (List.replicate k (V.int .u8 0) ++ [V.int .u8 0] ++ m.map fun c => V.int .u8 c.toNat).drop (k + [V.int .u8 (c.toNat : Int)].length) = m.map fun c => V.int .u8 c.toNat := by
    rw [List.drop_left' (by simp)]
  rw [t1, t2]
  simp
theorem arrV_at {m : List UInt8} (h : m.length ≤ 65) {i : Nat} (hi : i < m.length) : (arrV m).getD (65 - m.length + i) .any = .int .u8 (m.getD i 0).toNat := by
  unfold arrV
  rw [List.getD_eq_getElem?_getD, List.getElem?_append_right (by simp)]
  simp [hi, List.getD_eq_getElem?_getD]
theorem bytesOf_arr {m : List UInt8} (h : m.length ≤ 65) : bytesOf m.length (fun i => (arrV m).getD (65 - m.length + i) .any) = m := by
  unfold bytesOf
  apply List.ext_getElem
  · simp
  · intro i h1 h2
    simp only [List.getElem_map, List.getElem_range]
    rw [arrV_at h (by simpa using h1)]
    simp only [V.toByte, Int.toNat_natCast]
    rw [List.getD_eq_getElem?_getD, List.getElem?_eq_getElem h2]
    simp
theorem hexC_at : ∀ d, d < 16 → [48, 49, 50, 51, 52, 53, 54, 55, 56, 57, 97, 98, 99, 100, 101, 102, 103, 104, 105, 106, 107, 108, 109, 110, 111, 112, 113, 114, 115, 116, 117, 118, 119, 120, 121, 122].getD d 0 = hexC d := by decide
theorem and15 (u : Nat) (h : u < 18446744073709551616) : bitsI .and .u64 (u : Int) 15 = ((u % 16 : Nat) : Int) := by
  show IntKind.u64.wrap (((BitVec.ofInt 64 (u : Int) &&& BitVec.ofInt 64 15 : BitVec 64).toNat : Nat) : Int) = _
  have e3 : (BitVec.ofInt 64 (u : Int) &&& BitVec.ofInt 64 15 : BitVec 64).toNat = u % 16 := by
    rw [BitVec.ofInt_natCast, BitVec.toNat_and, show (BitVec.ofInt 64 15 : BitVec 64).toNat = 2 ^ 4 - 1 from rfl, BitVec.toNat_ofNat, Nat.mod_eq_of_lt (by omega), Nat.and_two_pow_sub_one_eq_mod]
  rw [e3, IntKind.wrap_u64]
  omega
theorem fdiv16 (u : Nat) : (u : Int).fdiv (2 ^ min 4 IntKind.u64.bits) = ((u / 16 : Nat) : Int) := by
  rw [show (2 : Int) ^ min 4 IntKind.u64.bits = 16 from rfl, Int.fdiv_eq_ediv_of_nonneg _ (by omega)]
  omega
theorem hexL_big {u : Nat} (h : 16 ≤ u) : hexL u = hexL (u / 16) ++ [hexC (u % 16)] := by rw [hexL, dif_neg (by omega)]
theorem hexL_small {u : Nat} (h : u < 16) : hexL u = [hexC u] := by rw [hexL, dif_pos h]
def ckBits : Ck
  | [.nilsl, .int .u64 u, .int .i64 b, .bool g, .bool ap] => some (b = 16 ∧ g = false ∧ ap = false ∧ 0 ≤ u ∧ u < 4294967296, .tup [.nilsl, .str (hexL u.toNat)])
  | _ => none
theorem conBits : Con pg 34 ckBits := by
  have hct := (ctA_ok conPow2 (ctA_ok conTz (ctN_ok _)))
  intro args q r h hq
  unfold ckBits at h
  split at h
  · cases h
    rename_i u b g ap
    refine w34 (fun _ => false) [] rfl hct rfl rfl ?_
    push_cast (config := { maxSteps := 10000000 })
    obtain ⟨rfl, rfl, rfl, hq⟩ := hq
    obtain ⟨n, rfl⟩ : ∃ n : Nat, u = n := ⟨u.toNat, by omega⟩
    push_cast (config := { maxSteps := 10000000 })
    refine LoopW.adj ⟨hct, fol⟩ (by kernel_rfl) [] (fun t : List UInt8 × Nat => [(0, .nilsl), (1, .int .u64 t.2), (3, .bool false), (4, .bool false), (10, .nilsl), (11, .str []), (12, .ptr 12 0), (13, .int .i64 (65 - t.1.length)), (14, .int .u64 4), (15, .int .u64 16), (16, .int .u64 15)]) (fun t => [(12, .cells (arrV t.1))]) (fun t => hexL t.2 ++ t.1 = hexL n ∧ t.1.length ≤ 7 ∧ t.2 < 16 ^ (8 - t.1.length)) (fun t => t.2) ([], n) ?_ fun t ht => ?_
    · push_cast (config := { maxSteps := 10000000 })
      exact ⟨by omega, vleR_refl _⟩
    · obtain ⟨m, u⟩ := t
      obtain ⟨h1, h2, h3⟩ := ht
      simp only at h1 h2 h3
      have hm : (arrV m).length = 65 := arrV_len (by omega)
      have hu : u < 4294967296 := by
        refine Nat.lt_of_lt_of_le h3 (Nat.le_trans (Nat.pow_le_pow_right (by omega) (Nat.sub_le 8 m.length)) (by decide))
      have ek : (65 - (m.length : Int) - 1).toNat = 64 - m.length := by omega
      push_cast (config := { maxSteps := 10000000 })
      rw [and15 u (by omega), fdiv16, ek, hm]
      simp only [Nat.zero_add, Nat.mul_one, Int.toNat_natCast]
      have hmod : u % 16 < 16 := Nat.mod_lt _ (by omega)
      rw [hexC_at _ hmod, setR_arr (by omega), setR_arr (by omega)]
      refine ⟨fun h => ⟨by omega, by omega, by omega, by omega, (hexC (u % 16) :: m, u / 16), ⟨?_, ?_, ?_⟩, by omega, ⟨rfl, by simp; omega⟩, vleR_refl _⟩, fun h => ⟨by omega, by omega, by omega, by omega, by omega, ?_⟩⟩
      · rw [hexL_big (by omega)] at h1; simpa using h1
      · have : m.length ≠ 7 := fun e => by rw [e] at h3; omega
        simp; omega
      · have : m.length ≠ 7 := fun e => by rw [e] at h3; omega
        simp only [List.length_cons]
        obtain ⟨k, hk⟩ : ∃ k, 8 - m.length = k + 1 := ⟨7 - m.length, by omega⟩
        rw [hk, Nat.pow_succ] at h3
        rw [show 8 - (m.length + 1) = k by omega]
        omega
      · have e5 : 65 - (64 - m.length) = (hexC u :: m).length := by rw [List.length_cons]; omega
        have e6 : 64 - m.length = 65 - (hexC u :: m).length := by rw [List.length_cons]; omega
        rw [hexC_at u (by omega), e5]
        rw [hexL_small (by omega)] at h1
        rw [← h1]
        rw [e6]
        have hl : (hexC u :: m).length ≤ 65 := by simp; omega
        refine ⟨⟨by rw [arrV_len hl]; omega, fun i hi => ⟨_, arrV_at hl hi⟩⟩, bytesOf_arr hl⟩
  · cases h
attribute [push_cast] ckBits
def ckFmt : Ck
  | [.int .i64 u, .int .i64 b] => some (b = 16 ∧ 0 ≤ u ∧ u < 4294967296, .str (hexL u.toNat))
  | _ => none
theorem conFmt1 : Con pg 25 ckFmt := by
  have hct := (ctA_ok conBits (ctN_ok _))
  intro args q r h hq
  unfold ckFmt at h
  split at h
  · cases h
    rename_i u b
    refine w25 (fun _ => false) [] rfl hct rfl rfl ?_
    push_cast (config := { maxSteps := 10000000 })
    obtain ⟨rfl, hq⟩ := hq
    push_cast (config := { maxSteps := 10000000 })
    rw [show u % 18446744073709551616 = u by omega]
    exact ⟨⟨by omega, by omega⟩, rfl⟩
  · cases h
attribute [push_cast] ckFmt
theorem conFmt : Con pg 18 ckFmt := by
  have hct := (ctA_ok conFmt1 (ctN_ok _))
  intro args q r h hq
  unfold ckFmt at h
  split at h
  · cases h
    rename_i u b
    refine w18 (fun _ => false) [] rfl hct rfl rfl ?_
    push_cast (config := { maxSteps := 10000000 })
    obtain ⟨rfl, hq⟩ := hq
    push_cast (config := { maxSteps := 10000000 })
    exact hq
  · cases h

def chunksL (k : Nat) (s : List UInt8) : List UInt8 :=
  if h : s = [] ∨ k = 0 then [48, 13, 10, 13, 10] else hexL (min k s.length) ++ [13, 10] ++ s.take (min k s.length) ++ [13, 10] ++ chunksL k (s.drop (min k s.length))
termination_by s.length
decreasing_by
  have : s.length ≠ 0 := fun e => h (.inl (List.length_eq_zero_iff.1 e))
  simp only [List.length_drop]
  omega
def ckChunks0 : Ck
  | [.sl n f, .int .i64 k] => some (isBy n f ∧ n ≤ 1000000 ∧ 1 ≤ k ∧ k ≤ 65536, .sl (chunksL k.toNat (bytesOf n f)).length (byF (chunksL k.toNat (bytesOf n f))))
  | _ => none
theorem hexL_len : ∀ (k u : Nat), u < 16 ^ k → (hexL u).length ≤ k + 1
  | 0, u, h => by rw [hexL_small (by omega)]; simp
  | k + 1, u, h => by
    by_cases h1 : u < 16
    · rw [hexL_small h1]; simp
    · rw [hexL_big (by omega)]
      have := hexL_len k (u / 16) (by rw [Nat.pow_succ] at h; omega)
      simp; omega
theorem chunksL_more {k : Nat} {s : List UInt8} (hs : 0 < s.length) (hk : 0 < k) : chunksL k s = hexL (min k s.length) ++ [13, 10] ++ s.take (min k s.length) ++ [13, 10] ++ chunksL k (s.drop (min k s.length)) := by
  rw [chunksL, dif_neg]
  rintro (h | h)
  · subst h; simp at hs
  · omega
theorem chunksL_len {k : Nat} (h1 : 1 ≤ k) (h2 : k ≤ 65536) : ∀ (n : Nat) (s : List UInt8), s.length ≤ n → (chunksL k s).length ≤ 5 + 11 * s.length := by
  intro n
  induction n with
  | zero =>
    intro s hs
    have : s = [] := List.length_eq_zero_iff.1 (by omega)
    subst this
    rw [chunksL, dif_pos (.inl rfl)]; simp
  | succ n ih =>
    intro s hs
    by_cases h0 : s.length = 0
    · have : s = [] := List.length_eq_zero_iff.1 (by omega)
      subst this
      rw [chunksL, dif_pos (.inl rfl)]; simp
    · rw [chunksL_more (by omega) (by omega)]
      have hx := hexL_len 5 (min k s.length) (by omega)
      have hm : 1 ≤ min k s.length ∧ min k s.length ≤ s.length := by omega
      have := ih (s.drop (min k s.length)) (by simp; omega)
      simp only [List.length_append, List.length_cons, List.length_nil, List.length_take, List.length_drop] at this ⊢
      omega
theorem conChunks0 : Con pg 12 ckChunks0 := by
  have hct := ctA_ok conFmt (ctN_ok pg)
  intro args q r h hq
  unfold ckChunks0 at h
  split at h
  · cases h
    rename_i n f k
    refine pcall_args (args' := [.sl (bytesOf n f).length (byF (bytesOf n f)), .int .i64 k]) ⟨hq.1.vle, VLe.refl _, trivial⟩ ?_
    have hn : (bytesOf n f).length ≤ 1000000 := by rw [bytesOf_len]; exact hq.2.1
    have hk := hq.2.2
    generalize bytesOf n f = s at hn ⊢
    obtain ⟨k, rfl⟩ : ∃ k' : Nat, k = k' := ⟨k.toNat, by omega⟩
    refine w12 (fun _ => false) [.frz 18] rfl hct rfl rfl ?_
    push_cast (config := { maxSteps := 10000000 })
    refine LoopW.adj ⟨hct, fol⟩ (by kernel_rfl) [.nv 5 18 1 (byF [])] (fun t : List UInt8 × List UInt8 => [(0, .sl t.1.length (byF t.1)), (1, .int .i64 k), (5, .vec 18 t.2.length)]) (fun t => [(18, .vec 1 t.2.length (byF t.2))]) (fun t => t.2 ++ chunksL k t.1 = chunksL k s ∧ t.1.length ≤ 1000000) (fun t => t.1.length) (s, []) ?_ fun t ht => ?_
    · push_cast (config := { maxSteps := 10000000 })
      exact hn
    · obtain ⟨r, l⟩ := t
      push_cast (config := { maxSteps := 10000000 })
      obtain ⟨h1, h2⟩ : l ++ chunksL k r = chunksL k s ∧ r.length ≤ 1000000 := ht
      have hl := chunksL_len (k := k) (by omega) (by omega) _ s (Nat.le_refl _)
      have hl2 := congrArg List.length h1
      simp only [List.length_append] at hl2
      have e : min (k : Int) (r.length : Int) = ((min k r.length : Nat) : Int) := by omega
      rw [e]
      simp only [Int.toNat_natCast]
      refine ⟨fun hr => ?_, fun hr => ?_⟩
      · have h3 := chunksL_more (k := k) (s := r) (by omega) (by omega)
        rw [h3] at h1 hl2
        have hx := hexL_len 5 (min k r.length) (by omega)
        have hm : 1 ≤ min k r.length ∧ min k r.length ≤ r.length ∧ min k r.length ≤ 65536 := by omega
        generalize min k r.length = m at *
        have b1 := ByI.app (ByI.by l) (ByI.by (hexL m ++ [13, 10])) (k := l.length + ((hexL m).length + 2)) (by simp)
        have b2 := ByI.app b1 (ByI.sh (l := 0) (k := m) (ByI.by r) (by omega)) rfl
        have b3 := ByI.app b2 (ByI.by [13, 10]) rfl
        have b4 := ByI.sh (l := m) (k := r.length - m) (ByI.by r) (by omega)
        have e4 : (r.drop m).take (r.length - m) = r.drop m := List.take_of_length_le (by simp)
        rw [e4] at b4
        simp only [List.drop_zero] at b3
        simp only [List.length_append, List.length_cons, List.length_nil, List.length_take, Nat.zero_add] at hl2
        refine ⟨by omega, by omega, by omega, by omega, by omega, by omega, by omega, (r.drop m, l ++ (hexL m ++ [13, 10]) ++ r.take m ++ [13, 10]), ⟨?_, by simp; omega⟩, by simp; omega, ⟨b4, b3.1⟩, b3⟩
        rw [← h1]; simp
      · have : r = [] := List.length_eq_zero_iff.1 (by omega)
        subst this
        have h3 : chunksL k [] = [48, 13, 10, 13, 10] := by rw [chunksL, dif_pos (.inl rfl)]
        rw [h3] at h1
        have b := ByI.app (ByI.by l) (ByI.by [48, 13, 10, 13, 10]) (k := l.length + 5) rfl
        have b' := b
        rw [h1] at b'
        push_cast (config := { maxSteps := 10000000 })
        exact ⟨by omega, b.pure, b'⟩
  · cases h
attribute [push_cast] ckChunks0

def chunksR (k : Int) (s : List UInt8) : List UInt8 × Int := if 200000 < s.length then ([], 2) else if k < 1 ∨ 65536 < k then ([], 1) else (chunksL k.toNat s, 0)
def ckChunks : Ck
  | [.sl n f, .int .i64 k] => some (isBy n f, .tup [.sl (chunksR k (bytesOf n f)).1.length (byF (chunksR k (bytesOf n f)).1), .int .i64 (chunksR k (bytesOf n f)).2])
  | _ => none
theorem chunksR_all {k : Int} {n : Nat} {f : Nat → V} (hq : isBy n f) : (200000 < (n : Int) → (chunksR k (bytesOf n f)).fst.length = 0 ∧ 2 = (chunksR k (bytesOf n f)).snd) ∧
    (¬200000 < (n : Int) → (k < 1 ∨ 65536 < k → (chunksR k (bytesOf n f)).fst.length = 0 ∧ 1 = (chunksR k (bytesOf n f)).snd) ∧
        (¬k < 1 ∧ ¬65536 < k → (isBy n f ∧ n ≤ 1000000 ∧ 1 ≤ k ∧ k ≤ 65536) ∧
            ((chunksL k.toNat (bytesOf n f)).length = (chunksR k (bytesOf n f)).fst.length ∧ ∀ (i : Nat), i < (chunksL k.toNat (bytesOf n f)).length → byF (chunksL k.toNat (bytesOf n f)) i = byF (chunksR k (bytesOf n f)).fst i) ∧
              0 = (chunksR k (bytesOf n f)).snd)) := by
  have hl : (bytesOf n f).length = n := bytesOf_len n f
  unfold chunksR
  rw [hl]
  refine ⟨fun h => ?_, fun h => ⟨fun h1 => ?_, fun h1 => ⟨⟨hq, by omega, by omega, by omega⟩, ?_⟩⟩⟩
  · rw [if_pos (by omega)]; exact ⟨rfl, rfl⟩
  · rw [if_neg (by omega), if_pos h1]; exact ⟨rfl, rfl⟩
  · rw [if_neg (by omega), if_neg (by omega)]; exact ⟨⟨rfl, fun _ _ => rfl⟩, rfl⟩
theorem conChunks : Con pg 5 ckChunks := by
  have hct := (ctA_ok conChunks0 (ctN_ok _))
  intro args q r h hq
  unfold ckChunks at h
  split at h
  · cases h
    rename_i n f k
    refine w5 (fun _ => false) [] rfl hct rfl rfl ?_
    push_cast (config := { maxSteps := 10000000 })
    exact chunksR_all hq
  · cases h
attribute [push_cast] ckChunks

def ckWithin2 : Ck
  | [.int .i64 n, .int .i64 a, .int .i64 b] => some (True, .bool (decide (a ≤ n) && decide (n ≤ b)))
  | _ => none
theorem conWithin2 : Con pg 15 ckWithin2 := by
  have hct := ctN_ok pg
  intro args q r h hq
  unfold ckWithin2 at h
  split at h
  · cases h
    rename_i n a b
    refine w15 (fun _ => false) [] rfl hct rfl rfl ?_
    push_cast (config := { maxSteps := 10000000 })
  · cases h
attribute [push_cast] ckWithin2
theorem byI_crlf : ByI 2 (litF [V.int IntKind.u8 13, V.int IntKind.u8 10]) [13, 10] := by
  refine ⟨rfl, fun i hi => ?_⟩
  rcases (by omega : i = 0 ∨ i = 1) with rfl | rfl <;> rfl
theorem conRchunks0 : Con pg 16 ckChunks0 := by
  have hct := ctA_ok conFmt (ctN_ok pg)
  intro args q r h hq
  unfold ckChunks0 at h
  split at h
  · cases h
    rename_i n f k
    refine pcall_args (args' := [.sl (bytesOf n f).length (byF (bytesOf n f)), .int .i64 k]) ⟨hq.1.vle, VLe.refl _, trivial⟩ ?_
    have hn : (bytesOf n f).length ≤ 1000000 := by rw [bytesOf_len]; exact hq.2.1
    have hk := hq.2.2
    generalize bytesOf n f = s at hn ⊢
    obtain ⟨k, rfl⟩ : ∃ k' : Nat, k = k' := ⟨k.toNat, by omega⟩
    refine w16 (fun _ => false) [.frz 17] rfl hct rfl rfl ?_
    push_cast (config := { maxSteps := 10000000 })
    refine LoopW.adj ⟨hct, fol⟩ (by kernel_rfl) [.nv 5 17 1 (byF [])] (fun t : List UInt8 × List UInt8 => [(0, .sl t.1.length (byF t.1)), (1, .int .i64 k), (5, .vec 17 t.2.length)]) (fun t => [(17, .vec 1 t.2.length (byF t.2))]) (fun t => t.2 ++ chunksL k t.1 = chunksL k s ∧ t.1.length ≤ 1000000) (fun t => t.1.length) (s, []) ?_ fun t ht => ?_
    · push_cast (config := { maxSteps := 10000000 })
      exact hn
    · obtain ⟨r, l⟩ := t
      push_cast (config := { maxSteps := 10000000 })
      obtain ⟨h1, h2⟩ : l ++ chunksL k r = chunksL k s ∧ r.length ≤ 1000000 := ht
      have hl := chunksL_len (k := k) (by omega) (by omega) _ s (Nat.le_refl _)
      have hl2 := congrArg List.length h1
      simp only [List.length_append] at hl2
      have e : min (k : Int) (r.length : Int) = ((min k r.length : Nat) : Int) := by omega
      rw [e]
      simp only [Int.toNat_natCast]
      refine ⟨fun hr => ?_, fun hr => ?_⟩
      · have h3 := chunksL_more (k := k) (s := r) (by omega) (by omega)
        rw [h3] at h1 hl2
        have hx := hexL_len 5 (min k r.length) (by omega)
        have hm : 1 ≤ min k r.length ∧ min k r.length ≤ r.length ∧ min k r.length ≤ 65536 := by omega
        generalize min k r.length = m at *
        have b1 := ByI.app (ByI.by l) (ByI.by (hexL m)) rfl
        have b2 := ByI.app b1 byI_crlf rfl
        have b2' := ByI.app b2 (ByI.sh (l := 0) (k := m) (ByI.by r) (by omega)) rfl
        have b3 := ByI.app b2' byI_crlf rfl
        have b4 := ByI.sh (l := m) (k := r.length - m) (ByI.by r) (by omega)
        have e4 : (r.drop m).take (r.length - m) = r.drop m := List.take_of_length_le (by simp)
        rw [e4] at b4
        simp only [List.drop_zero] at b3
        simp only [List.length_append, List.length_cons, List.length_nil, List.length_take, Nat.zero_add] at hl2
        refine ⟨by omega, by omega, by omega, by omega, by omega, by omega, by omega, (r.drop m, l ++ hexL m ++ [13, 10] ++ r.take m ++ [13, 10]), ⟨?_, by simp; omega⟩, by simp; omega, ⟨b4, b3.1⟩, b3⟩
        rw [← h1]; simp
      · have : r = [] := List.length_eq_zero_iff.1 (by omega)
        subst this
        have h3 : chunksL k [] = [48, 13, 10, 13, 10] := by rw [chunksL, dif_pos (.inl rfl)]
        rw [h3] at h1
        have b := ByI.app (ByI.by l) (ByI.by [48, 13, 10, 13, 10]) (k := l.length + 5) rfl
        have b' := b
        rw [h1] at b'
        push_cast (config := { maxSteps := 10000000 })
        exact ⟨by omega, b.pure, b'⟩
  · cases h
theorem conRchunks : Con pg 10 ckChunks := by
  have hct := (ctA_ok conRchunks0 (ctA_ok conWithin2 (ctN_ok _)))
  intro args q r h hq
  unfold ckChunks at h
  split at h
  · cases h
    rename_i n f k
    refine w10 (fun _ => false) [] rfl hct rfl rfl ?_
    push_cast (config := { maxSteps := 10000000 })
    obtain ⟨a1, a2⟩ := chunksR_all (k := k) hq
    exact ⟨a1, fun h => ⟨fun h1 => (a2 h).1 (by omega), fun h1 => (a2 h).2 (by omega)⟩⟩
  · cases h

def ckBEqual : Ck
  | [.sl n f, .sl m g] => some (isBy n f ∧ isBy m g, .bool (bytesOf n f == bytesOf m g))
  | _ => none
theorem isBy.p {n : Nat} {f : Nat → V} (h : isBy n f) : ∀ i, i < n → ∃ m, f i = .int .u8 m := ByI.bytesP h
theorem conBEqual : Con pg 8 ckBEqual := by
  have hct := ctN_ok pg
  intro args q r h hq
  unfold ckBEqual at h
  split at h
  · cases h
    rename_i n f m g
    refine w8 (fun _ => false) [] rfl hct rfl rfl ?_
    push_cast (config := { maxSteps := 10000000 })
    exact ⟨hq.1.p, hq.2.p⟩
  · cases h
attribute [push_cast] ckBEqual

end Go.Abs
