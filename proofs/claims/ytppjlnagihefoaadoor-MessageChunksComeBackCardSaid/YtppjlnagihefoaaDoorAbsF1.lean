/- what functions of this program compute: contracts, each a function's own -/
import Derived.Test.YtppjlnagihefoaaDoorAbsA44
import Derived.Test.YtppjlnagihefoaaDoorAbsFacts
import Derived.Test.YtppjlnagihefoaaDoorAbsP0
import Derived.Test.YtppjlnagihefoaaDoorAbsShelf
import Derived.Lib.Walk
import Derived.Lib.BitFns
import Derived.Lib.TrailingZeros
import Derived.Lib.ItoaLen
namespace Go.Abs
open Go Go.Proofs
set_option maxHeartbeats 4000000
set_option maxRecDepth 100000
set_option linter.unusedVariables false
set_option linter.unusedSimpArgs false
def ckHexValue : Ck
  | [.int .u8 c] => some (0 ≤ c ∧ c < 256, .int .i64 (hx (UInt8.ofNat c.toNat)))
  | _ => none
theorem conHexValue : Con pg 21 ckHexValue := by
  have hct := ctN_ok pg
  intro args q r h hq
  unfold ckHexValue at h
  split at h
  · cases h
    rename_i c
    refine w21 (fun _ => false) [] rfl hct rfl rfl ?_
    push_cast (config := { maxSteps := 10000000 })
    obtain ⟨n, rfl⟩ : ∃ n : Nat, c = n := ⟨c.toNat, by omega⟩
    have e : (UInt8.ofNat n).toNat = n := by simp; omega
    unfold hx
    rw [Int.toNat_natCast, e]
    (repeat' (first | apply And.intro | intro _)) <;> (repeat' split) <;> omega
  · cases h
attribute [push_cast] ckHexValue
def ckIsBegun : Ck
  | [.sl n f, .str w] => some (isBy n f ∧ n ≤ 4611686018427387904 ∧ w.length ≤ 1000, .int .i64 (begF (bytesOf n f) w))
  | _ => none
theorem conIsBegun : Con pg 22 ckIsBegun := by
  have hct := ctN_ok pg
  intro args q r h hq
  unfold ckIsBegun at h
  split at h
  · cases h
    rename_i n f w
    refine pcall_args (args' := [.sl (bytesOf n f).length (byF (bytesOf n f)), .str w]) ⟨hq.1.vle, VLe.refl _, trivial⟩ ?_
    have hn : (bytesOf n f).length ≤ 4611686018427387904 := by rw [bytesOf_len]; exact hq.2.1
    have hw := hq.2.2
    generalize bytesOf n f = s at hn ⊢
    refine w22 (fun _ => false) [] rfl hct rfl rfl ?_
    push_cast (config := { maxSteps := 10000000 })
    refine LoopW.adj ⟨hct, fol⟩ (by kernel_rfl) [] (fun i : Nat => [(0, .sl s.length (byF s)), (1, .str w), (7, .int .i64 w.length), (8, .int .i64 i)]) (fun _ => []) (fun i => i ≤ w.length ∧ i ≤ s.length ∧ begF (s.drop i) (w.drop i) = begF s w) (fun i => w.length - i) 0 ?_ fun i hi => ?_
    · push_cast (config := { maxSteps := 10000000 })
      exact ⟨Nat.zero_le _, Nat.zero_le _⟩
    · push_cast (config := { maxSteps := 10000000 })
      obtain ⟨h1, h2, h3⟩ := hi
      refine ⟨fun hw => ⟨fun hs => ?_, fun hs => ⟨by omega, hw, fun hc => ?_, fun hc => ⟨by omega, i + 1, ⟨by omega, by omega, ?_⟩, by omega, by omega⟩⟩⟩, fun hw => ?_⟩
      · rw [← h3, List.drop_eq_nil_of_le hs, drop_at hw]; rfl
      · rw [← h3, drop_at hw, drop_at (by omega : i < s.length), begF, if_neg (fun e => hc (by rw [e]))]; rfl
      · rw [← h3, drop_at hw, drop_at (by omega : i < s.length), begF, if_pos (UInt8.toNat_inj.1 hc)]
      · rw [← h3, List.drop_eq_nil_of_le (by omega : w.length ≤ i)]
        cases s.drop i <;> rfl
  · cases h
attribute [push_cast] ckIsBegun
def ckReadChunk : Ck
  | [.sl n f] => some (isBy n f ∧ n ≤ 4611686018427000000, .tup [.sl (readL (bytesOf n f)).1.length (byF (readL (bytesOf n f)).1), .int .i64 (readL (bytesOf n f)).2.1, .int .i64 (readL (bytesOf n f)).2.2])
  | _ => none
theorem conReadChunk : Con pg 14 ckReadChunk := by
  have hct := ctA_ok conHexValue (ctA_ok conIsBegun (ctN_ok pg))
  intro args q r h hq
  unfold ckReadChunk at h
  split at h
  · cases h
    rename_i n f
    refine pcall_args (args' := [.sl (bytesOf n f).length (byF (bytesOf n f))]) ⟨hq.1.vle, trivial⟩ ?_
    have hn : (bytesOf n f).length ≤ 4611686018427000000 := by rw [bytesOf_len]; exact hq.2
    generalize bytesOf n f = s at hn ⊢
    refine w14 (fun _ => false) [] rfl hct rfl rfl ?_
    push_cast (config := { maxSteps := 10000000 })
    refine LoopW.adj ⟨hct, fol⟩ (by kernel_rfl) [] (fun t : Nat × Nat => [(0, .sl s.length (byF s)), (5, .int .i64 t.2), (6, .int .i64 t.1)]) (fun _ => []) (fun t => t.1 ≤ s.length ∧ t.2 ≤ 65536 ∧ numF (s.drop t.1) t.1 t.2 = numF s 0 0) (fun t => s.length - t.1) (0, 0) ?_ fun t ht => ?_
    · push_cast (config := { maxSteps := 10000000 })
      exact Nat.zero_le _
    · obtain ⟨i, n⟩ := t
      push_cast (config := { maxSteps := 10000000 })
      obtain ⟨h1, h2, h3⟩ : i ≤ s.length ∧ n ≤ 65536 ∧ numF (s.drop i) i n = numF s 0 0 := ht
      have hh := hx_le (s.getD i 0)
      have hu := u8_lt (s.getD i 0)
      refine ⟨fun hi => ⟨hi, by omega⟩, fun ⟨hi, hc⟩ => ⟨fun hz => ?_, fun hz => ⟨by omega, hi, by omega, by omega, fun hz2 => ?_, fun hz2 => ⟨by omega, (i + 1, 16 * n + hx (s.getD i 0)), ⟨by show i + 1 ≤ s.length; omega, by show 16 * n + hx (s.getD i 0) ≤ 65536; omega, ?_⟩, by show s.length - (i + 1) < s.length - i; omega, by simp, by simp⟩⟩⟩, fun hc => ?_⟩
      · rw [readL_bad (m := 0) (a := i + 1) (h3 ▸ numF_bad hi (by omega) (.inl (by omega)))]; exact ⟨rfl, rfl, rfl⟩
      · rw [readL_bad (m := 0) (a := i + 1) (h3 ▸ numF_bad hi (by omega) (.inr (by omega)))]; exact ⟨rfl, rfl, rfl⟩
      · rw [← h3, numF_next hi (by omega) (by omega)]
      · have e := h3 ▸ numF_end (n := n) h1 (fun hi hh => hc hi (by omega))
        have er := readL_of e.symm.symm
        obtain ⟨d1, d2⟩ := isBy_drop s i h1
        rw [d2]
        refine ⟨fun hl => ?_, fun hl => ⟨fun hz => ?_, fun hz => ⟨h1, ⟨d1, by omega⟩, fun hb => ?_, fun hb => ⟨by omega, by omega, fun hs => ?_, fun hs => ?_⟩⟩⟩⟩
        · rw [er, if_pos hl]; exact ⟨rfl, rfl, rfl⟩
        · rw [er, if_neg hl, if_pos (by omega)]; exact ⟨rfl, rfl, rfl⟩
        · rw [er, if_neg hl, if_neg (by omega), if_pos (show begF (s.drop i) crlf ≠ 0 from fun hh => hb (by rw [show ([13, 10] : List UInt8) = crlf from rfl, hh]; rfl))]; exact ⟨rfl, rfl, rfl⟩
        · have hb' : ¬begF (s.drop i) crlf ≠ 0 := fun hh => hh (by have : begF (s.drop i) crlf = begF (s.drop i) [13, 10] := rfl; omega)
          rw [er, if_neg hl, if_neg (by omega), if_neg hb', if_pos (by omega)]; exact ⟨rfl, rfl, rfl⟩
        · have hb' : ¬begF (s.drop i) crlf ≠ 0 := fun hh => hh (by have : begF (s.drop i) crlf = begF (s.drop i) [13, 10] := rfl; omega)
          rw [if_neg hl, if_neg (by omega), if_neg hb', if_neg (by omega)] at er
          have ei : ((i : Int) + 2 + n).toNat = i + 2 + n := by omega
          rw [ei]
          obtain ⟨d3, d4⟩ := isBy_drop s (i + 2 + n) (by omega)
          rw [d4]
          refine ⟨by omega, by omega, ⟨d3, by omega⟩, fun hb2 => ?_, fun hb2 => ⟨by omega, by omega, by omega, by omega, ?_⟩⟩
          · rw [er, if_pos (show begF (s.drop (i + 2 + n)) crlf ≠ 0 from fun hh => hb2 (by rw [show ([13, 10] : List UInt8) = crlf from rfl, hh]; rfl))]; exact ⟨rfl, rfl, rfl⟩
          · have hb3 : ¬begF (s.drop (i + 2 + n)) crlf ≠ 0 := fun hh => hh (by have : begF (s.drop (i + 2 + n)) crlf = begF (s.drop (i + 2 + n)) [13, 10] := rfl; omega)
            rw [if_neg hb3] at er
            rw [er]
            have b := ByI.sh (l := i + 2) (k := i + 2 + n - (i + 2)) (ByI.by s) (by omega)
            rw [show i + 2 + n - (i + 2) = n by omega] at b ⊢
            exact ⟨b, by simp, rfl⟩
  · cases h
attribute [push_cast] ckReadChunk

/-- all chunks from a place on -/
def readAll (b : List UInt8) : Nat → Nat → List UInt8 → List UInt8 × Nat × Nat × Nat
  | 0, _, _ => ([], 0, 0, 0)
  | k + 1, a, out =>
    if (readL (b.drop a)).2.2 = 2 then ([], 0, a, 10) else
    if (readL (b.drop a)).2.2 = 1 then (if out.length ≤ 200000 then (out, a, b.length, 15) else ([], 0, 0, 2)) else
    if 0 < (readL (b.drop a)).1.length then readAll b k (a + (readL (b.drop a)).2.1) (out ++ (readL (b.drop a)).1) else
    if 200000 < (out ++ (readL (b.drop a)).1).length then ([], 0, 0, 2) else
    if a + (readL (b.drop a)).2.1 < b.length then (out ++ (readL (b.drop a)).1, a + (readL (b.drop a)).2.1, a + (readL (b.drop a)).2.1, 3) else
    (out ++ (readL (b.drop a)).1, a + (readL (b.drop a)).2.1, 0, 0)
def readC (b : List UInt8) : List UInt8 × Nat × Nat × Nat := readAll b (b.length + 1) 0 []
theorem readL_b (s : List UInt8) : (readL s).2.2 ≤ 2 ∧ ((readL s).2.2 = 0 → (readL s).1.length + 5 ≤ (readL s).2.1 ∧ (readL s).2.1 ≤ s.length) := by
  cases he : numF s 0 0 with
  | mk ok p =>
    obtain ⟨n, i⟩ := p
    cases ok with
    | false => rw [readL_bad he]; simp
    | true =>
      rw [readL_of he]
      have hb1 := begF_b (s.drop i) crlf
      have hb2 := begF_b (s.drop (i + 2 + n)) crlf
      split
      · simp
      · split
        · simp
        · split
          · refine ⟨hb1, fun h => ?_⟩
            rename_i hh
            exact absurd h hh
          · split
            · simp
            · split
              · refine ⟨hb2, fun h => ?_⟩
                rename_i hh
                exact absurd h hh
              · rename_i h
                have hl := begF_len (Classical.not_not.1 h)
                simp only [crlf, List.length_cons, List.length_nil, List.length_drop] at hl
                refine ⟨by simp, fun _ => ⟨?_, ?_⟩⟩
                · simp only [List.length_take, List.length_drop]; omega
                · simp only; omega
def ckReadChunks : Ck
  | [.sl n f] => some (isBy n f ∧ n ≤ 140737488355328, .tup [.sl (readC (bytesOf n f)).1.length (byF (readC (bytesOf n f)).1), .int .i64 (readC (bytesOf n f)).2.1, .int .i64 (readC (bytesOf n f)).2.2.1, .int .i64 (readC (bytesOf n f)).2.2.2])
  | _ => none
theorem conReadChunks : Con pg 7 ckReadChunks := by
  have hct := ctA_ok conReadChunk (ctN_ok pg)
  intro args q r h hq
  unfold ckReadChunks at h
  split at h
  · cases h
    rename_i n f
    refine pcall_args (args' := [.sl (bytesOf n f).length (byF (bytesOf n f))]) ⟨hq.1.vle, trivial⟩ ?_
    have hn : (bytesOf n f).length ≤ 140737488355328 := by rw [bytesOf_len]; exact hq.2
    generalize bytesOf n f = s at hn ⊢
    refine w7 (fun _ => false) [.frz 41] rfl hct rfl rfl ?_
    push_cast (config := { maxSteps := 10000000 })
    refine LoopW.adj ⟨hct, fol⟩ (by kernel_rfl) [.nv 6 41 1 (byF [])] (fun t : Nat × Nat × List UInt8 => [(0, .sl s.length (byF s)), (6, .vec 41 t.2.2.length), (7, .int .i64 t.2.1)]) (fun t => [(41, .vec 1 t.2.2.length (byF t.2.2))]) (fun t => t.2.1 ≤ s.length ∧ t.2.2.length ≤ t.2.1 ∧ s.length - t.2.1 < t.1 ∧ readAll s t.1 t.2.1 t.2.2 = readC s) (fun t => t.1) (s.length + 1, 0, []) ?_ fun t ht => ?_
    · push_cast (config := { maxSteps := 10000000 })
      exact ⟨Nat.zero_le _, Nat.lt_succ_self _, rfl⟩
    · obtain ⟨k, i, l⟩ := t
      obtain ⟨h1, h2, h3, h4⟩ : i ≤ s.length ∧ l.length ≤ i ∧ s.length - i < k ∧ readAll s k i l = readC s := ht
      push_cast (config := { maxSteps := 10000000 })
      obtain ⟨d1, d2⟩ := isBy_drop s i h1
      rw [d2]
      obtain ⟨r1, r2⟩ := readL_b (s.drop i)
      simp only [List.length_drop] at r2
      have bp := ByI.pure (ByI.by l)
      obtain ⟨k, rfl⟩ : ∃ k', k = k' + 1 := ⟨k - 1, by omega⟩
      simp only [readAll] at h4
      generalize readL (s.drop i) = R at h4 r1 r2 ⊢
      obtain ⟨body, long, how⟩ := R
      simp only at h4 r1 r2 ⊢
      have ba := ByI.app (ByI.by l) (ByI.by body) rfl
      refine ⟨h1, ⟨d1, by omega⟩, fun hc => ⟨bp, ?_⟩, fun hc => ⟨fun hd => ⟨bp, ?_⟩, fun hd => ⟨fun he => ⟨bp, ?_⟩, fun he => ⟨by have := r2 (by omega); omega, by have := r2 (by omega); omega, fun hb => ⟨(k, i + long, l ++ body), ⟨by have := r2 (by omega); show i + long ≤ s.length; omega, by have := r2 (by omega); simp; omega, by have := r2 (by omega); show s.length - (i + long) < k; omega, ?_⟩, Nat.lt_succ_self _, ⟨by simp, by simp⟩, ba⟩, fun hb => ⟨fun hl => ⟨ba.pure, ?_⟩, fun hl => ⟨fun hs => ⟨ba.pure, ?_⟩, fun hs => ⟨ba.pure, ?_⟩⟩⟩⟩⟩⟩⟩
      · rw [if_pos (by omega)] at h4
        rw [← h4]; exact ⟨rfl, rfl, rfl, rfl⟩
      · rw [if_neg (by omega), if_pos (by omega), if_pos (by omega)] at h4
        rw [← h4]; exact ⟨⟨rfl, fun _ _ => rfl⟩, rfl, rfl, rfl⟩
      · rw [if_neg (by omega), if_pos (by omega), if_neg (by omega)] at h4
        rw [← h4]; exact ⟨rfl, rfl, rfl, rfl⟩
      · rw [if_neg (by omega), if_neg (by omega), if_pos (by omega)] at h4
        exact h4
      · rw [if_neg (by omega), if_neg (by omega), if_neg (by omega), if_pos (by simp; omega)] at h4
        rw [← h4]; exact ⟨rfl, rfl, rfl, rfl⟩
      · rw [if_neg (by omega), if_neg (by omega), if_neg (by omega), if_neg (by simp; omega), if_pos (by omega)] at h4
        rw [← h4]; exact ⟨ba, by simp, by simp, rfl⟩
      · rw [if_neg (by omega), if_neg (by omega), if_neg (by omega), if_neg (by simp; omega), if_neg (by omega)] at h4
        rw [← h4]; exact ⟨ba, by simp, rfl, rfl⟩
  · cases h
attribute [push_cast] ckReadChunks

theorem tabPow {w : World} (h : pg.ok w) : Lib.TabIs Tryd.prog w "internal/strconv.uint64pow10" .u64 Lib.pow10Tab := by
  obtain ⟨w0, ⟨h1, _⟩, h2⟩ := h
  have h1 : laidMet Tryd.prog laidL w0 := h1
  refine tabIs_same (g := 0) (by kernel_rfl) (by decide) h2 (laidMet_cells (g := 0) (t := 67) (e := 56) (n := 20) (by kernel_rfl) (by kernel_rfl) (by kernel_rfl) (by kernel_rfl) (by kernel_rfl) (by kernel_rfl) laidL ?_ h1)
  first | exact .head _ | exact .tail _ (.head _) | exact .tail _ (.tail _ (.head _)) | exact .tail _ (.tail _ (.tail _ (.head _))) | exact .tail _ (.tail _ (.tail _ (.tail _ (.head _))))
def ckItoa : Ck
  | [.int .i64 n] => some (-9223372036854775808 ≤ n ∧ n ≤ 9223372036854775807, .str (Lib.itoa n))
  | _ => none
theorem conItoa : Con pg 36 ckItoa := by
  intro args q r h hq
  unfold ckItoa at h
  split at h
  · cases h
    refine pcall_shelf (by kernel_rfl) rfl fun w hw => (Tryd.strconv_Itoa _ hq.1 hq.2 w (tabPow hw)).mono fun e w' h => ?_
    obtain ⟨he, k, os, rfl⟩ := h
    exact shelf_str he (grow_drew _ _ _)
  · cases h
attribute [push_cast] ckItoa
def ckRepeat : Ck
  | [.str s, .int .i64 n] => some (0 ≤ n ∧ n ≤ 1000000 ∧ s.length ≤ 1000000, .str (Lib.repeatL s n.toNat))
  | _ => none
theorem conRepeat : Con pg 37 ckRepeat := by
  intro args q r h hq
  unfold ckRepeat at h
  split at h
  · cases h
    rename_i s n
    obtain ⟨k, rfl⟩ : ∃ k : Nat, n = k := ⟨n.toNat, by omega⟩
    refine pcall_shelf (by kernel_rfl) rfl fun w hw => (Tryd.strings_Repeat ⟨s.toArray⟩ k w (by omega) ?_).mono fun e w' h => ?_
    · show s.toArray.size * k ≤ _
      have : s.length * k ≤ 1000000 * 1000000 := Nat.mul_le_mul (by omega) (by omega)
      simp; omega
    · exact shelf_str (by simpa using h.1) (grow_below h.2)
  · cases h
attribute [push_cast] ckRepeat

theorem tabDb64 {w : World} (h : pg.ok w) : Lib.TabIs Tryd.prog w "math/bits.deBruijn64tab" .u8 (Lib.deBruijn64tab.map fun (n : Nat) => (n : Int)) := by
  obtain ⟨w0, ⟨h1, _⟩, h2⟩ := h
  have h1 : laidMet Tryd.prog laidL w0 := h1
  refine tabIs_same (g := 2) (by kernel_rfl) (by decide) h2 (laidMet_cells (g := 2) (t := 92) (e := 5) (n := 64) (by kernel_rfl) (by kernel_rfl) (by kernel_rfl) (by kernel_rfl) (by kernel_rfl) (by kernel_rfl) laidL ?_ h1)
  first | exact .head _ | exact .tail _ (.head _) | exact .tail _ (.tail _ (.head _)) | exact .tail _ (.tail _ (.tail _ (.head _))) | exact .tail _ (.tail _ (.tail _ (.tail _ (.head _))))
theorem tz64_16 (w : World) (hc : w.cell? ⟨2, 15, none⟩ = some (.int .u8 4)) :
    Calls Tryd.prog 55 #[.int .u64 16] w fun e w' => e = .returned (.int .i64 4) ∧ w' = w := by
  have key : IntKind.u64.wrap (bits BinOp.and IntKind.u64 16 (IntKind.u64.wrap (-16)) * 285870213051353865) / 288230376151711744 = 15 := by decide
  go_enter Tryd.func55, Tryd.ntmps55
  go_wp2_with (simp only [key])
  go_ret
  exact ⟨rfl, rfl⟩
def ckTz : Ck
  | [.int .u64 n] => some (n = 16, .int .i64 4)
  | _ => none
theorem conTz64 : Con pg 55 ckTz := by
  intro args q r h hq
  unfold ckTz at h
  split at h
  · cases h
    obtain rfl := hq
    refine pcall_shelf (by kernel_rfl) rfl fun w hw => (tz64_16 w ?_).mono fun e w' h => shelf_int h.1 (grow_eq h.2)
    exact (tabDb64 hw).cell (g := 2) (by kernel_rfl) 15 (by decide)
  · cases h
attribute [push_cast] ckTz
theorem conTz : Con pg 44 ckTz := by
  have hct := (ctA_ok conTz64 (ctN_ok _))
  intro args q r h hq
  unfold ckTz at h
  split at h
  · cases h
    rename_i n
    refine w44 (fun _ => false) [] rfl hct rfl rfl ?_
    push_cast (config := { maxSteps := 10000000 })
    exact hq
  · cases h

def ckPow2 : Ck
  | [.int .i64 n] => some (n = 16, .bool true)
  | _ => none
theorem conPow2 : Con pg 43 ckPow2 := by
  have hct := ctN_ok pg
  intro args q r h hq
  unfold ckPow2 at h
  split at h
  · cases h
    rename_i n
    refine w43 (fun _ => false) [] rfl hct rfl rfl ?_
    push_cast (config := { maxSteps := 10000000 })
    subst hq
    decide
  · cases h
attribute [push_cast] ckPow2
def hexC (n : Nat) : UInt8 := if n < 10 then UInt8.ofNat (48 + n) else UInt8.ofNat (87 + n)
def hexL (u : Nat) : List UInt8 := if h : u < 16 then [hexC u] else hexL (u / 16) ++ [hexC (u % 16)]
termination_by u
decreasing_by omega
def arrV (m : List UInt8) : List V := List.replicate (65 - m.length) (.int .u8 0) ++ m.map fun c => .int .u8 c.toNat
theorem arrV_len {m : List UInt8} (h : m.length ≤ 65) : (arrV m).length = 65 := by simp [arrV]; omega
theorem vle1_refl (x : V) : vle1 x x := by cases x <;> simp [vle1]
theorem vleR_refl (l : List V) : vleR vle1 l l := by
  induction l with
  | nil => trivial
  | cons x l ih => exact ⟨vle1_refl x, ih⟩
theorem setR_arr {m : List UInt8} (h : m.length ≤ 64) (c : UInt8) : setR (arrV m) (64 - m.length) [.int .u8 c.toNat] = arrV (c :: m) := by
  obtain ⟨k, hk⟩ : ∃ k, 64 - m.length = k := ⟨_, rfl⟩
  have e1 : 65 - m.length = k + 1 := by omega
  have e2 : 65 - (c :: m).length = k := by simp; omega
  unfold setR arrV
  rw [e1, e2, hk, List.replicate_succ']
  have t1 : (List.replicate k (V.int .u8 0) ++ [V.int .u8 0] ++ m.map fun c => V.int .u8 c.toNat).take k = List.replicate k (V.int .u8 0) := by
    rw [List.append_assoc, List.take_left' (by simp)]
  have t2 : (List.replicate k (V.int .u8 0) ++ [V.int .u8 0] ++ m.map fun c => V.int .u8 c.toNat).drop (k + [V.int .u8 (c.toNat : Int)].length) = m.map fun c => V.int .u8 c.toNat := by
    rw [List.drop_left' (by simp)]
  rw [t1, t2]
  simp
theorem arrV_at {m : List UInt8} (h : m.length ≤ 65) {i : Nat} (hi : i < m.length) : (arrV m).getD (65 - m.length + i) .any = .int .u8 (m.getD i 0).toNat := by
  unfold arrV
  rw [List.getD_eq_getElem?_getD, List.getElem?_append_right (by simp)]
  simp [hi, List.getD_eq_getElem?_getD]
theorem bytesOf_arr {m : List UInt8} (h : m.length ≤ 65) : bytesOf m.length (fun i => (arrV m).getD (65 - m.length + i) .any) = m := by
  unfold bytesOf
  apply List.ext_getElem
  · simp
  · intro i h1 h2
    simp only [List.getElem_map, List.getElem_range]
    rw [arrV_at h (by simpa using h1)]
    simp only [V.toByte, Int.toNat_natCast]
    rw [List.getD_eq_getElem?_getD, List.getElem?_eq_getElem h2]
    simp
theorem hexC_at : ∀ d, d < 16 → [48, 49, 50, 51, 52, 53, 54, 55, 56, 57, 97, 98, 99, 100, 101, 102, 103, 104, 105, 106, 107, 108, 109, 110, 111, 112, 113, 114, 115, 116, 117, 118, 119, 120, 121, 122].getD d 0 = hexC d := by decide
theorem and15 (u : Nat) (h : u < 18446744073709551616) : bitsI .and .u64 (u : Int) 15 = ((u % 16 : Nat) : Int) := by
  show IntKind.u64.wrap (((BitVec.ofInt 64 (u : Int) &&& BitVec.ofInt 64 15 : BitVec 64).toNat : Nat) : Int) = _
  have e3 : (BitVec.ofInt 64 (u : Int) &&& BitVec.ofInt 64 15 : BitVec 64).toNat = u % 16 := by
    rw [BitVec.ofInt_natCast, BitVec.toNat_and, show (BitVec.ofInt 64 15 : BitVec 64).toNat = 2 ^ 4 - 1 from rfl, BitVec.toNat_ofNat, Nat.mod_eq_of_lt (by omega), Nat.and_two_pow_sub_one_eq_mod]
  rw [e3, IntKind.wrap_u64]
  omega
theorem fdiv16 (u : Nat) : (u : Int).fdiv (2 ^ min 4 IntKind.u64.bits) = ((u / 16 : Nat) : Int) := by
  rw [show (2 : Int) ^ min 4 IntKind.u64.bits = 16 from rfl, Int.fdiv_eq_ediv_of_nonneg _ (by omega)]
  omega
theorem hexL_big {u : Nat} (h : 16 ≤ u) : hexL u = hexL (u / 16) ++ [hexC (u % 16)] := by rw [hexL, dif_neg (by omega)]
theorem hexL_small {u : Nat} (h : u < 16) : hexL u = [hexC u] := by rw [hexL, dif_pos h]
def ckBits : Ck
  | [.nilsl, .int .u64 u, .int .i64 b, .bool g, .bool ap] => some (b = 16 ∧ g = false ∧ ap = false ∧ 0 ≤ u ∧ u < 4294967296, .tup [.nilsl, .str (hexL u.toNat)])
  | _ => none
theorem conBits : Con pg 34 ckBits := by
  have hct := (ctA_ok conPow2 (ctA_ok conTz (ctN_ok _)))
  intro args q r h hq
  unfold ckBits at h
  split at h
  · cases h
    rename_i u b g ap
    refine w34 (fun _ => false) [] rfl hct rfl rfl ?_
    push_cast (config := { maxSteps := 10000000 })
    obtain ⟨rfl, rfl, rfl, hq⟩ := hq
    obtain ⟨n, rfl⟩ : ∃ n : Nat, u = n := ⟨u.toNat, by omega⟩
    push_cast (config := { maxSteps := 10000000 })
    refine LoopW.adj ⟨hct, fol⟩ (by kernel_rfl) [] (fun t : List UInt8 × Nat => [(0, .nilsl), (1, .int .u64 t.2), (3, .bool false), (4, .bool false), (10, .nilsl), (11, .str []), (12, .ptr 12 0), (13, .int .i64 (65 - t.1.length)), (14, .int .u64 4), (15, .int .u64 16), (16, .int .u64 15)]) (fun t => [(12, .cells (arrV t.1))]) (fun t => hexL t.2 ++ t.1 = hexL n ∧ t.1.length ≤ 7 ∧ t.2 < 16 ^ (8 - t.1.length)) (fun t => t.2) ([], n) ?_ fun t ht => ?_
    · push_cast (config := { maxSteps := 10000000 })
      exact ⟨by omega, vleR_refl _⟩
    · obtain ⟨m, u⟩ := t
      obtain ⟨h1, h2, h3⟩ := ht
      simp only at h1 h2 h3
      have hm : (arrV m).length = 65 := arrV_len (by omega)
      have hu : u < 4294967296 := by
        refine Nat.lt_of_lt_of_le h3 (Nat.le_trans (Nat.pow_le_pow_right (by omega) (Nat.sub_le 8 m.length)) (by decide))
      have ek : (65 - (m.length : Int) - 1).toNat = 64 - m.length := by omega
      push_cast (config := { maxSteps := 10000000 })
      rw [and15 u (by omega), fdiv16, ek, hm]
      simp only [Nat.zero_add, Nat.mul_one, Int.toNat_natCast]
      have hmod : u % 16 < 16 := Nat.mod_lt _ (by omega)
      rw [hexC_at _ hmod, setR_arr (by omega), setR_arr (by omega)]
      refine ⟨fun h => ⟨by omega, by omega, by omega, by omega, (hexC (u % 16) :: m, u / 16), ⟨?_, ?_, ?_⟩, by omega, ⟨rfl, by simp; omega⟩, vleR_refl _⟩, fun h => ⟨by omega, by omega, by omega, by omega, by omega, ?_⟩⟩
      · rw [hexL_big (by omega)] at h1; simpa using h1
      · have : m.length ≠ 7 := fun e => by rw [e] at h3; omega
        simp; omega
      · have : m.length ≠ 7 := fun e => by rw [e] at h3; omega
        simp only [List.length_cons]
        obtain ⟨k, hk⟩ : ∃ k, 8 - m.length = k + 1 := ⟨7 - m.length, by omega⟩
        rw [hk, Nat.pow_succ] at h3
        rw [show 8 - (m.length + 1) = k by omega]
        omega
      · have e5 : 65 - (64 - m.length) = (hexC u :: m).length := by rw [List.length_cons]; omega
        have e6 : 64 - m.length = 65 - (hexC u :: m).length := by rw [List.length_cons]; omega
        rw [hexC_at u (by omega), e5]
        rw [hexL_small (by omega)] at h1
        rw [← h1]
        rw [e6]
        have hl : (hexC u :: m).length ≤ 65 := by simp; omega
        refine ⟨⟨by rw [arrV_len hl]; omega, fun i hi => ⟨_, arrV_at hl hi⟩⟩, bytesOf_arr hl⟩
  · cases h
attribute [push_cast] ckBits
def ckFmt : Ck
  | [.int .i64 u, .int .i64 b] => some (b = 16 ∧ 0 ≤ u ∧ u < 4294967296, .str (hexL u.toNat))
  | _ => none
theorem conFmt1 : Con pg 25 ckFmt := by
  have hct := (ctA_ok conBits (ctN_ok _))
  intro args q r h hq
  unfold ckFmt at h
  split at h
  · cases h
    rename_i u b
    refine w25 (fun _ => false) [] rfl hct rfl rfl ?_
    push_cast (config := { maxSteps := 10000000 })
    obtain ⟨rfl, hq⟩ := hq
    push_cast (config := { maxSteps := 10000000 })
    rw [show u % 18446744073709551616 = u by omega]
    exact ⟨⟨by omega, by omega⟩, rfl⟩
  · cases h
attribute [push_cast] ckFmt
theorem conFmt : Con pg 18 ckFmt := by
  have hct := (ctA_ok conFmt1 (ctN_ok _))
  intro args q r h hq
  unfold ckFmt at h
  split at h
  · cases h
    rename_i u b
    refine w18 (fun _ => false) [] rfl hct rfl rfl ?_
    push_cast (config := { maxSteps := 10000000 })
    obtain ⟨rfl, hq⟩ := hq
    push_cast (config := { maxSteps := 10000000 })
    exact hq
  · cases h

def chunksL (k : Nat) (s : List UInt8) : List UInt8 :=
  if h : s = [] ∨ k = 0 then [48, 13, 10, 13, 10] else hexL (min k s.length) ++ [13, 10] ++ s.take (min k s.length) ++ [13, 10] ++ chunksL k (s.drop (min k s.length))
termination_by s.length
decreasing_by
  have : s.length ≠ 0 := fun e => h (.inl (List.length_eq_zero_iff.1 e))
  simp only [List.length_drop]
  omega
def ckChunks0 : Ck
  | [.sl n f, .int .i64 k] => some (isBy n f ∧ n ≤ 1000000 ∧ 1 ≤ k ∧ k ≤ 65536, .sl (chunksL k.toNat (bytesOf n f)).length (byF (chunksL k.toNat (bytesOf n f))))
  | _ => none
theorem hexL_len : ∀ (k u : Nat), u < 16 ^ k → (hexL u).length ≤ k + 1
  | 0, u, h => by rw [hexL_small (by omega)]; simp
  | k + 1, u, h => by
    by_cases h1 : u < 16
    · rw [hexL_small h1]; simp
    · rw [hexL_big (by omega)]
      have := hexL_len k (u / 16) (by rw [Nat.pow_succ] at h; omega)
      simp; omega
theorem chunksL_more {k : Nat} {s : List UInt8} (hs : 0 < s.length) (hk : 0 < k) : chunksL k s = hexL (min k s.length) ++ [13, 10] ++ s.take (min k s.length) ++ [13, 10] ++ chunksL k (s.drop (min k s.length)) := by
  rw [chunksL, dif_neg]
  rintro (h | h)
  · subst h; simp at hs
  · omega
theorem chunksL_len {k : Nat} (h1 : 1 ≤ k) (h2 : k ≤ 65536) : ∀ (n : Nat) (s : List UInt8), s.length ≤ n → (chunksL k s).length ≤ 5 + 11 * s.length := by
  intro n
  induction n with
  | zero =>
    intro s hs
    have : s = [] := List.length_eq_zero_iff.1 (by omega)
    subst this
    rw [chunksL, dif_pos (.inl rfl)]; simp
  | succ n ih =>
    intro s hs
    by_cases h0 : s.length = 0
    · have : s = [] := List.length_eq_zero_iff.1 (by omega)
      subst this
      rw [chunksL, dif_pos (.inl rfl)]; simp
    · rw [chunksL_more (by omega) (by omega)]
      have hx := hexL_len 5 (min k s.length) (by omega)
      have hm : 1 ≤ min k s.length ∧ min k s.length ≤ s.length := by omega
      have := ih (s.drop (min k s.length)) (by simp; omega)
      simp only [List.length_append, List.length_cons, List.length_nil, List.length_take, List.length_drop] at this ⊢
      omega
theorem conChunks0 : Con pg 12 ckChunks0 := by
  have hct := ctA_ok conFmt (ctN_ok pg)
  intro args q r h hq
  unfold ckChunks0 at h
  split at h
  · cases h
    rename_i n f k
    refine pcall_args (args' := [.sl (bytesOf n f).length (byF (bytesOf n f)), .int .i64 k]) ⟨hq.1.vle, VLe.refl _, trivial⟩ ?_
    have hn : (bytesOf n f).length ≤ 1000000 := by rw [bytesOf_len]; exact hq.2.1
    have hk := hq.2.2
    generalize bytesOf n f = s at hn ⊢
    obtain ⟨k, rfl⟩ : ∃ k' : Nat, k = k' := ⟨k.toNat, by omega⟩
    refine w12 (fun _ => false) [.frz 18] rfl hct rfl rfl ?_
    push_cast (config := { maxSteps := 10000000 })
    refine LoopW.adj ⟨hct, fol⟩ (by kernel_rfl) [.nv 5 18 1 (byF [])] (fun t : List UInt8 × List UInt8 => [(0, .sl t.1.length (byF t.1)), (1, .int .i64 k), (5, .vec 18 t.2.length)]) (fun t => [(18, .vec 1 t.2.length (byF t.2))]) (fun t => t.2 ++ chunksL k t.1 = chunksL k s ∧ t.1.length ≤ 1000000) (fun t => t.1.length) (s, []) ?_ fun t ht => ?_
    · push_cast (config := { maxSteps := 10000000 })
      exact hn
    · obtain ⟨r, l⟩ := t
      push_cast (config := { maxSteps := 10000000 })
      obtain ⟨h1, h2⟩ : l ++ chunksL k r = chunksL k s ∧ r.length ≤ 1000000 := ht
      have hl := chunksL_len (k := k) (by omega) (by omega) _ s (Nat.le_refl _)
      have hl2 := congrArg List.length h1
      simp only [List.length_append] at hl2
      have e : min (k : Int) (r.length : Int) = ((min k r.length : Nat) : Int) := by omega
      rw [e]
      simp only [Int.toNat_natCast]
      refine ⟨fun hr => ?_, fun hr => ?_⟩
      · have h3 := chunksL_more (k := k) (s := r) (by omega) (by omega)
        rw [h3] at h1 hl2
        have hx := hexL_len 5 (min k r.length) (by omega)
        have hm : 1 ≤ min k r.length ∧ min k r.length ≤ r.length ∧ min k r.length ≤ 65536 := by omega
        generalize min k r.length = m at *
        have b1 := ByI.app (ByI.by l) (ByI.by (hexL m ++ [13, 10])) (k := l.length + ((hexL m).length + 2)) (by simp)
        have b2 := ByI.app b1 (ByI.sh (l := 0) (k := m) (ByI.by r) (by omega)) rfl
        have b3 := ByI.app b2 (ByI.by [13, 10]) rfl
        have b4 := ByI.sh (l := m) (k := r.length - m) (ByI.by r) (by omega)
        have e4 : (r.drop m).take (r.length - m) = r.drop m := List.take_of_length_le (by simp)
        rw [e4] at b4
        simp only [List.drop_zero] at b3
        simp only [List.length_append, List.length_cons, List.length_nil, List.length_take, Nat.zero_add] at hl2
        refine ⟨by omega, by omega, by omega, by omega, by omega, by omega, by omega, (r.drop m, l ++ (hexL m ++ [13, 10]) ++ r.take m ++ [13, 10]), ⟨?_, by simp; omega⟩, by simp; omega, ⟨b4, b3.1⟩, b3⟩
        rw [← h1]; simp
      · have : r = [] := List.length_eq_zero_iff.1 (by omega)
        subst this
        have h3 : chunksL k [] = [48, 13, 10, 13, 10] := by rw [chunksL, dif_pos (.inl rfl)]
        rw [h3] at h1
        have b := ByI.app (ByI.by l) (ByI.by [48, 13, 10, 13, 10]) (k := l.length + 5) rfl
        have b' := b
        rw [h1] at b'
        push_cast (config := { maxSteps := 10000000 })
        exact ⟨by omega, b.pure, b'⟩
  · cases h
attribute [push_cast] ckChunks0

def chunksR (k : Int) (s : List UInt8) : List UInt8 × Int := if 200000 < s.length then ([], 2) else if k < 1 ∨ 65536 < k then ([], 1) else (chunksL k.toNat s, 0)
def ckChunks : Ck
  | [.sl n f, .int .i64 k] => some (isBy n f, .tup [.sl (chunksR k (bytesOf n f)).1.length (byF (chunksR k (bytesOf n f)).1), .int .i64 (chunksR k (bytesOf n f)).2])
  | _ => none
theorem chunksR_all {k : Int} {n : Nat} {f : Nat → V} (hq : isBy n f) : (200000 < (n : Int) → (chunksR k (bytesOf n f)).fst.length = 0 ∧ 2 = (chunksR k (bytesOf n f)).snd) ∧
    (¬200000 < (n : Int) → (k < 1 ∨ 65536 < k → (chunksR k (bytesOf n f)).fst.length = 0 ∧ 1 = (chunksR k (bytesOf n f)).snd) ∧
        (¬k < 1 ∧ ¬65536 < k → (isBy n f ∧ n ≤ 1000000 ∧ 1 ≤ k ∧ k ≤ 65536) ∧
            ((chunksL k.toNat (bytesOf n f)).length = (chunksR k (bytesOf n f)).fst.length ∧ ∀ (i : Nat), i < (chunksL k.toNat (bytesOf n f)).length → byF (chunksL k.toNat (bytesOf n f)) i = byF (chunksR k (bytesOf n f)).fst i) ∧
              0 = (chunksR k (bytesOf n f)).snd)) := by
  have hl : (bytesOf n f).length = n := bytesOf_len n f
  unfold chunksR
  rw [hl]
  refine ⟨fun h => ?_, fun h => ⟨fun h1 => ?_, fun h1 => ⟨⟨hq, by omega, by omega, by omega⟩, ?_⟩⟩⟩
  · rw [if_pos (by omega)]; exact ⟨rfl, rfl⟩
  · rw [if_neg (by omega), if_pos h1]; exact ⟨rfl, rfl⟩
  · rw [if_neg (by omega), if_neg (by omega)]; exact ⟨⟨rfl, fun _ _ => rfl⟩, rfl⟩
theorem conChunks : Con pg 5 ckChunks := by
  have hct := (ctA_ok conChunks0 (ctN_ok _))
  intro args q r h hq
  unfold ckChunks at h
  split at h
  · cases h
    rename_i n f k
    refine w5 (fun _ => false) [] rfl hct rfl rfl ?_
    push_cast (config := { maxSteps := 10000000 })
    exact chunksR_all hq
  · cases h
attribute [push_cast] ckChunks

theorem hx_hexC : ∀ d, d < 16 → hx (hexC d) = d := by decide
theorem numF_hex : ∀ (u : Nat), u ≤ 65536 → ∀ t, numF (hexL u ++ t) 0 0 = numF t (hexL u).length u := by
  intro u
  induction u using Nat.strongRecOn with
  | ind u ih =>
    intro hu t
    by_cases h : u < 16
    · rw [hexL_small h]
      simp only [List.cons_append, List.nil_append, numF]
      rw [hx_hexC u h, if_pos h, if_neg (by omega)]
      simp
    · rw [hexL_big (by omega), List.append_assoc, ih (u / 16) (by omega) (by omega)]
      simp only [List.cons_append, List.nil_append, numF]
      rw [hx_hexC _ (Nat.mod_lt _ (by omega)), if_pos (Nat.mod_lt _ (by omega)), if_neg (by omega)]
      rw [show 16 * (u / 16) + u % 16 = u by omega]
      simp
theorem numF_prefix : ∀ (p q : List UInt8) (a n : Nat), (numF (p ++ q) a n).1 = true → a + p.length ≤ (numF (p ++ q) a n).2.2 → (numF p a n).1 = true ∧ (numF p a n).2.2 = a + p.length
  | [], q, a, n, _, _ => by simp [numF]
  | c :: p, q, a, n, h1, h2 => by
    simp only [List.cons_append, numF] at h1 h2 ⊢
    by_cases h3 : hx c < 16
    · rw [if_pos h3] at h1 h2 ⊢
      by_cases h4 : (0 < a ∧ n = 0) ∨ 65536 < 16 * n + hx c
      · rw [if_pos h4] at h1; simp at h1
      · rw [if_neg h4] at h1 h2 ⊢
        have := numF_prefix p q (a + 1) (16 * n + hx c) h1 (by simp only [List.length_cons] at h2; omega)
        refine ⟨this.1, ?_⟩
        rw [this.2]; simp; omega
    · rw [if_neg h3] at h2
      simp only [List.length_cons] at h2
      omega
theorem hexL_pos (u : Nat) : 1 ≤ (hexL u).length := by
  by_cases h : u < 16
  · rw [hexL_small h]; simp
  · rw [hexL_big (by omega)]; simp
theorem hx13 : ¬hx 13 < 16 := by decide
theorem numF_13 (t : List UInt8) (a n : Nat) : numF (13 :: t) a n = (true, n, a) := by rw [numF, if_neg hx13]
/-- a whole chunk, with anything behind it -/
theorem readL_chunk {m : Nat} (hm : m ≤ 65536) {data : List UInt8} (hd : data.length = m) (rest : List UInt8) :
    readL (hexL m ++ ([13, 10] ++ (data ++ ([13, 10] ++ rest)))) = (data, (hexL m).length + 2 + m + 2, 0) := by
  have hp := hexL_pos m
  have e : numF (hexL m ++ ([13, 10] ++ (data ++ ([13, 10] ++ rest)))) 0 0 = (true, m, (hexL m).length) := by
    rw [numF_hex m hm]; exact numF_13 _ _ _
  rw [readL_of e]
  generalize hh : hexL m = H at *
  have d1 : (H ++ ([13, 10] ++ (data ++ ([13, 10] ++ rest)))).drop H.length = [13, 10] ++ (data ++ ([13, 10] ++ rest)) := List.drop_left
  have d2 : (H ++ ([13, 10] ++ (data ++ ([13, 10] ++ rest)))).drop (H.length + 2) = data ++ ([13, 10] ++ rest) := by
    rw [← List.drop_drop, d1]; rfl
  have d3 : (H ++ ([13, 10] ++ (data ++ ([13, 10] ++ rest)))).drop (H.length + 2 + m) = [13, 10] ++ rest := by
    rw [← List.drop_drop, d2, ← hd, List.drop_left]
  rw [d1, d2, d3]
  have b1 : ∀ t, begF ([13, 10] ++ t) crlf = 0 := fun t => by simp [begF, crlf]
  rw [b1, b1, if_neg (by simp), if_neg (by omega), if_neg (by simp), if_neg (by simp; omega), if_neg (by simp), List.take_left' hd]
/-- the beginning of a chunk -/
theorem readL_part {m : Nat} (hm : m ≤ 65536) {data : List UInt8} (hd : data.length = m) {j : Nat} (hj : j < (hexL m).length + 2 + m + 2) :
    readL ((hexL m ++ ([13, 10] ++ (data ++ [13, 10]))).take j) = ([], 0, 1) := by
  have hp := hexL_pos m
  by_cases h1 : j ≤ (hexL m).length
  · have e0 : (hexL m ++ ([13, 10] ++ (data ++ [13, 10]))).take j = (hexL m).take j := by rw [List.take_append_of_le_length h1]
    rw [e0]
    have hf := numF_hex m hm []
    rw [List.append_nil] at hf
    have := numF_prefix ((hexL m).take j) ((hexL m).drop j) 0 0 (by rw [List.take_append_drop, hf]; rfl) (by rw [List.take_append_drop, hf]; simp [numF]; omega)
    cases hq : numF ((hexL m).take j) 0 0 with
    | mk ok p =>
      obtain ⟨n, i⟩ := p
      rw [hq] at this
      obtain ⟨t1, t2⟩ := this
      simp only at t1 t2
      subst t1
      rw [readL_of hq, if_pos (by omega)]
  · have e0 : (hexL m ++ ([13, 10] ++ (data ++ [13, 10]))).take j = hexL m ++ ([13, 10] ++ (data ++ [13, 10])).take (j - (hexL m).length) := by
      rw [List.take_append, List.take_of_length_le (by omega)]
    rw [e0]
    obtain ⟨i, hi⟩ : ∃ i, j - (hexL m).length = i + 1 := ⟨j - (hexL m).length - 1, by omega⟩
    have hi2 : i + 1 < 2 + m + 2 := by omega
    rw [hi]
    have e : numF (hexL m ++ ([13, 10] ++ (data ++ [13, 10])).take (i + 1)) 0 0 = (true, m, (hexL m).length) := by
      rw [numF_hex m hm]; exact numF_13 _ _ _
    rw [readL_of e]
    generalize hexL m = H at *
    have hl : (H ++ ([13, 10] ++ (data ++ [13, 10])).take (i + 1)).length = H.length + (i + 1) := by simp; omega
    have d1 : (H ++ ([13, 10] ++ (data ++ [13, 10])).take (i + 1)).drop H.length = ([13, 10] ++ (data ++ [13, 10])).take (i + 1) := List.drop_left
    rw [hl, d1, if_neg (by omega), if_neg (by omega)]
    cases i with
    | zero =>
      have : begF (([13, 10] ++ (data ++ [13, 10])).take (0 + 1)) crlf = 1 := rfl
      rw [this, if_pos (by omega)]
    | succ i =>
      have b0 : begF (([13, 10] ++ (data ++ [13, 10])).take (i + 1 + 1)) crlf = 0 := by simp [begF, crlf]
      rw [b0, if_neg (by simp)]
      by_cases h2 : i < m
      · rw [if_pos (by omega)]
      · rw [if_neg (by omega)]
        have d3 : (H ++ ([13, 10] ++ (data ++ [13, 10])).take (i + 1 + 1)).drop (H.length + 2 + m) = ([13, 10] : List UInt8).take (i - m) := by
          rw [show H.length + 2 + m = H.length + (2 + m) by omega, ← List.drop_drop, d1]
          rw [show List.take (i + 1 + 1) (([13, 10] : List UInt8) ++ (data ++ [13, 10])) = ([13, 10] : List UInt8) ++ (data ++ [13, 10]).take i from rfl, ← List.drop_drop]
          show List.drop m (List.take i (data ++ [13, 10])) = _
          rw [List.take_append, List.take_of_length_le (by omega), List.drop_left' hd, hd]
        rw [d3]
        have : i - m = 0 ∨ i - m = 1 := by omega
        rcases this with h5 | h5 <;> rw [h5]
        · have : begF (([13, 10] : List UInt8).take 0) crlf = 1 := rfl
          rw [this, if_pos (by omega)]
        · have : begF (([13, 10] : List UInt8).take 1) crlf = 1 := rfl
          rw [this, if_pos (by omega)]
theorem chunksL_nil (k : Nat) : chunksL k [] = hexL 0 ++ ([13, 10] ++ ([] ++ [13, 10])) := by
  rw [chunksL, dif_pos (.inl rfl), hexL_small (by omega)]; rfl
theorem chunksL_cons {k : Nat} {s : List UInt8} (hs : 0 < s.length) (hk : 0 < k) : chunksL k s = (hexL (min k s.length) ++ ([13, 10] ++ (s.take (min k s.length) ++ [13, 10]))) ++ chunksL k (s.drop (min k s.length)) := by
  rw [chunksL_more hs hk]; simp only [List.append_assoc]
theorem read_all {k : Nat} (h1 : 1 ≤ k) (h2 : k ≤ 65536) : ∀ (n : Nat) (body : List UInt8), body.length ≤ n → ∀ (pre out : List UInt8) (fuel : Nat), (chunksL k body).length < fuel → out.length + body.length ≤ 200000 →
    readAll (pre ++ chunksL k body) fuel pre.length out = (out ++ body, (pre ++ chunksL k body).length, 0, 0) := by
  intro n
  induction n with
  | zero =>
    intro body hb pre out fuel hf ho
    have : body = [] := List.length_eq_zero_iff.1 (by omega)
    subst this
    obtain ⟨f, rfl⟩ : ∃ f, fuel = f + 1 := ⟨fuel - 1, by omega⟩
    simp only [readAll, List.drop_left]
    have hr := readL_chunk (m := 0) (by omega) (data := []) rfl []
    rw [chunksL_nil]
    rw [List.append_nil] at hr
    rw [hr]
    have hl : (hexL 0).length = 1 := by rw [hexL_small (by omega)]; rfl
    simp only [List.length_nil, List.append_nil, List.length_append, List.length_cons, hl]
    rw [if_neg (by omega), if_neg (by omega), if_neg (by omega), if_neg (by simp at ho; omega), if_neg (by omega)]
  | succ n ih =>
    intro body hb pre out fuel hf ho
    by_cases h0 : body.length = 0
    · exact ih body (by omega) pre out fuel hf ho
    · have hc := chunksL_cons (k := k) (s := body) (by omega) (by omega)
      obtain ⟨f, rfl⟩ : ∃ f, fuel = f + 1 := ⟨fuel - 1, by omega⟩
      simp only [readAll, List.drop_left]
      have hm : 1 ≤ min k body.length ∧ min k body.length ≤ body.length ∧ min k body.length ≤ 65536 := by omega
      have hr := readL_chunk (m := min k body.length) hm.2.2 (data := body.take (min k body.length)) (by simp) (chunksL k (body.drop (min k body.length)))
      have hr' : readL (chunksL k body) = (body.take (min k body.length), (hexL (min k body.length)).length + 2 + min k body.length + 2, 0) := by
        rw [hc]; simp only [List.append_assoc] at hr ⊢; exact hr
      generalize min k body.length = m at *
      rw [hr']
      have hl : (body.take m).length = m := by simp; omega
      rw [if_neg (by simp), if_neg (by simp), if_pos (by simp only [hl]; omega)]
      have hlen := congrArg List.length hc
      simp only [List.length_append, hl, List.length_cons, List.length_nil] at hlen
      have := ih (body.drop m) (by simp; omega) (pre ++ (hexL m ++ ([13, 10] ++ (body.take m ++ [13, 10])))) (out ++ body.take m) f (by omega) (by simp; omega)
      rw [List.append_assoc pre, ← hc] at this
      rw [show List.length (pre ++ (hexL m ++ (([13, 10] : List UInt8) ++ (body.take m ++ [13, 10])))) = pre.length + ((hexL m).length + 2 + m + 2) by simp only [List.length_append, hl, List.length_cons, List.length_nil]; omega] at this
      rw [this, List.append_assoc, List.take_append_drop]
theorem read_part {k : Nat} (h1 : 1 ≤ k) (h2 : k ≤ 65536) : ∀ (n : Nat) (body : List UInt8), body.length ≤ n → ∀ (pre out : List UInt8) (fuel j : Nat), j < (chunksL k body).length → j < fuel → out.length + body.length ≤ 200000 →
    ∃ i a, readAll (pre ++ (chunksL k body).take j) fuel pre.length out = (out ++ body.take i, a, (pre ++ (chunksL k body).take j).length, 15) := by
  intro n
  induction n with
  | zero =>
    intro body hb pre out fuel j hj hf ho
    have : body = [] := List.length_eq_zero_iff.1 (by omega)
    subst this
    obtain ⟨f, rfl⟩ : ∃ f, fuel = f + 1 := ⟨fuel - 1, by omega⟩
    simp only [readAll, List.drop_left]
    have hl : (hexL 0).length = 1 := by rw [hexL_small (by omega)]; rfl
    rw [chunksL_nil] at hj ⊢
    simp only [List.length_append, hl, List.length_cons, List.length_nil] at hj
    have hr := readL_part (m := 0) (by omega) (data := []) rfl (j := j) (by omega)
    rw [hr, if_neg (by simp), if_pos rfl, if_pos (by simp at ho; omega)]
    exact ⟨0, pre.length, by simp⟩
  | succ n ih =>
    intro body hb pre out fuel j hj hf ho
    by_cases h0 : body.length = 0
    · exact ih body (by omega) pre out fuel j hj hf ho
    · have hc := chunksL_cons (k := k) (s := body) (by omega) (by omega)
      obtain ⟨f, rfl⟩ : ∃ f, fuel = f + 1 := ⟨fuel - 1, by omega⟩
      simp only [readAll, List.drop_left]
      have hm : 1 ≤ min k body.length ∧ min k body.length ≤ body.length ∧ min k body.length ≤ 65536 := by omega
      generalize min k body.length = m at *
      have hl : (body.take m).length = m := by simp; omega
      have hC : (hexL m ++ ([13, 10] ++ (body.take m ++ [13, 10]))).length = (hexL m).length + 2 + m + 2 := by simp only [List.length_append, hl, List.length_cons, List.length_nil]; omega
      by_cases hj2 : j < (hexL m).length + 2 + m + 2
      · have e : (chunksL k body).take j = (hexL m ++ ([13, 10] ++ (body.take m ++ [13, 10]))).take j := by
          rw [hc, List.take_append_of_le_length (by omega)]
        rw [e]
        rw [readL_part (m := m) hm.2.2 hl hj2, if_neg (by simp), if_pos rfl, if_pos (by omega)]
        exact ⟨0, pre.length, by simp⟩
      · have e : (chunksL k body).take j = (hexL m ++ ([13, 10] ++ (body.take m ++ [13, 10]))) ++ (chunksL k (body.drop m)).take (j - ((hexL m).length + 2 + m + 2)) := by
          rw [hc, List.take_append, List.take_of_length_le (by omega), hC]
        have hr := readL_chunk (m := m) hm.2.2 (data := body.take m) hl ((chunksL k (body.drop m)).take (j - ((hexL m).length + 2 + m + 2)))
        have hr' : readL ((chunksL k body).take j) = (body.take m, (hexL m).length + 2 + m + 2, 0) := by
          rw [e]; simp only [List.append_assoc] at hr ⊢; exact hr
        rw [hr']
        rw [if_neg (by simp), if_neg (by simp), if_pos (by simp only [hl]; omega)]
        have hlen := congrArg List.length hc
        rw [List.length_append, hC] at hlen
        obtain ⟨i, a, hi⟩ := ih (body.drop m) (by simp; omega) (pre ++ (hexL m ++ ([13, 10] ++ (body.take m ++ [13, 10])))) (out ++ body.take m) f (j - ((hexL m).length + 2 + m + 2)) (by omega) (by omega) (by simp; omega)
        rw [List.append_assoc pre, ← e] at hi
        rw [show List.length (pre ++ (hexL m ++ (([13, 10] : List UInt8) ++ (body.take m ++ [13, 10])))) = pre.length + ((hexL m).length + 2 + m + 2) by rw [List.length_append, hC]] at hi
        refine ⟨m + i, a, ?_⟩
        rw [hi, List.append_assoc, ← List.take_add]
theorem readC_all {k : Nat} (h1 : 1 ≤ k) (h2 : k ≤ 65536) {body : List UInt8} (hb : body.length ≤ 200000) : readC (chunksL k body) = (body, (chunksL k body).length, 0, 0) := by
  have := read_all h1 h2 _ body (Nat.le_refl _) [] [] ((chunksL k body).length + 1) (by omega) (by simp; omega)
  simpa [readC] using this
theorem readC_part {k : Nat} (h1 : 1 ≤ k) (h2 : k ≤ 65536) {body : List UInt8} (hb : body.length ≤ 200000) {j : Nat} (hj : j < (chunksL k body).length) : ∃ i a, readC ((chunksL k body).take j) = (body.take i, a, j, 15) := by
  obtain ⟨i, a, h⟩ := read_part h1 h2 _ body (Nat.le_refl _) [] [] (((chunksL k body).take j).length + 1) j hj (by simp; omega) (by simp; omega)
  refine ⟨i, a, ?_⟩
  have e : ((chunksL k body).take j).length = j := by simp; omega
  unfold readC
  simpa [e] using h

def ckBEqual : Ck
  | [.sl n f, .sl m g] => some (isBy n f ∧ isBy m g, .bool (bytesOf n f == bytesOf m g))
  | _ => none
theorem isBy.p {n : Nat} {f : Nat → V} (h : isBy n f) : ∀ i, i < n → ∃ m, f i = .int .u8 m := ByI.bytesP h
theorem conBEqual : Con pg 8 ckBEqual := by
  have hct := ctN_ok pg
  intro args q r h hq
  unfold ckBEqual at h
  split at h
  · cases h
    rename_i n f m g
    refine w8 (fun _ => false) [] rfl hct rfl rfl ?_
    push_cast (config := { maxSteps := 10000000 })
    exact ⟨hq.1.p, hq.2.p⟩
  · cases h
attribute [push_cast] ckBEqual
def ckBHasPrefix : Ck
  | [.sl n f, .sl m g] => some (isBy n f ∧ isBy m g ∧ n ≤ 4611686018427387904 ∧ m ≤ 4611686018427387904, .bool (decide (m ≤ n) && ((bytesOf n f).take m == bytesOf m g)))
  | _ => none
theorem conBHasPrefix : Con pg 9 ckBHasPrefix := by
  have hct := (ctA_ok conBEqual (ctN_ok _))
  intro args q r h hq
  unfold ckBHasPrefix at h
  split at h
  · cases h
    rename_i n f m g
    refine w9 (fun _ => false) [] rfl hct rfl rfl ?_
    push_cast (config := { maxSteps := 10000000 })
    have key : m ≤ n → ByI m (shF f 0) ((bytesOf n f).take m) := fun h => by
      have := ByI.sh (l := 0) (k := m) hq.1 (by omega)
      rwa [List.drop_zero] at this
    refine ⟨fun h => ⟨h, h, fun h0 => by rw [hq.1.2 0 h0]; rfl⟩, fun h => ⟨h, (key h).is, hq.2.1⟩, ?_⟩
    by_cases h : m ≤ n
    · rw [(key h).bytes]
    · simp [h]
  · cases h
attribute [push_cast] ckBHasPrefix

def monthLongI (y m : Int) : Int :=
  if m = 4 ∨ m = 6 ∨ m = 9 ∨ m = 11 then 30 else if m = 2 then (if y % 4 = 0 ∧ (y % 100 ≠ 0 ∨ y % 400 = 0) then 29 else 28) else 31
def ckMonthLong : Ck
  | [.int .i64 y, .int .i64 m] => some (0 ≤ y ∧ y ≤ 1000000, .int .i64 (monthLongI y m))
  | _ => none
theorem conMonthLong : Con pg 45 ckMonthLong := by
  have hct := ctN_ok pg
  intro args q r h hq
  unfold ckMonthLong at h
  split at h
  · cases h
    rename_i y m
    refine w45 (fun _ => false) [] rfl hct rfl rfl ?_
    push_cast (config := { maxSteps := 10000000 })
    unfold monthLongI
    (repeat' (first | apply And.intro | intro _)) <;> (try first | assumption | contradiction | omega | exact rfl | exact trivial)
  · cases h
attribute [push_cast] ckMonthLong
def monthsSum (y : Int) : Nat → Int
  | 0 => 0
  | k + 1 => monthsSum y k + monthLongI y ((k : Int) + 1)
def daysI (y m : Int) : Int := 365 * (y - 1) + (y - 1) / 4 - (y - 1) / 100 + (y - 1) / 400 - 719162 + monthsSum y (m - 1).toNat
theorem monthLongI_b (y m : Int) : 28 ≤ monthLongI y m ∧ monthLongI y m ≤ 31 := by
  unfold monthLongI
  (repeat' (first | apply And.intro | intro _)) <;> (try first | assumption | contradiction | omega | exact rfl | exact trivial)
theorem monthsSum_b (y : Int) (k : Nat) : 0 ≤ monthsSum y k ∧ monthsSum y k ≤ 31 * k := by
  induction k with
  | zero => simp [monthsSum]
  | succ k ih => have := monthLongI_b y ((k : Int) + 1); simp only [monthsSum]; omega
theorem daysI_1 (y : Int) : daysI y 1 = 365 * (y - 1) + (y - 1) / 4 - (y - 1) / 100 + (y - 1) / 400 - 719162 := by
  unfold daysI
  rw [show ((1 : Int) - 1).toNat = 0 from rfl]
  simp only [monthsSum]; omega
attribute [irreducible] daysI
def ckDays : Ck
  | [.int .i64 y, .int .i64 m] => some (1 ≤ y ∧ y ≤ 1000000 ∧ m ≤ 13, .int .i64 (daysI y m))
  | _ => none
theorem conDays : Con pg 35 ckDays := by
  have hct := (ctA_ok conMonthLong (ctN_ok _))
  intro args q r h hq
  unfold ckDays at h
  split at h
  · cases h
    rename_i y m
    refine w35 (fun _ => false) [] rfl hct rfl rfl ?_
    push_cast (config := { maxSteps := 10000000 })
    (repeat (refine ⟨by omega, ?_⟩))
    refine LoopW.adj ⟨hct, fol⟩ (by kernel_rfl) [] (fun k : Nat => [(0, .int .i64 y), (1, .int .i64 m), (6, .int .i64 (daysI y 1 + monthsSum y k)), (7, .int .i64 (k + 1))]) (fun _ => []) (fun k => (k : Int) + 1 ≤ 13 ∧ ((k : Int) + 1 ≤ m ∨ k = 0)) (fun k => 13 - k) 0 ?_ fun k hk => ?_
    · push_cast (config := { maxSteps := 10000000 })
      have e1 : daysI y 1 = 365 * (y - 1) + (y - 1) / 4 - (y - 1) / 100 + (y - 1) / 400 - 719162 := daysI_1 y
      simp only [e1, monthsSum]
      (repeat' (first | apply And.intro | intro _)) <;> (try first | assumption | contradiction | omega | exact rfl | exact trivial)
    · push_cast (config := { maxSteps := 10000000 })
      have := monthsSum_b y k
      have := monthLongI_b y ((k : Int) + 1)
      have e1 : daysI y 1 = 365 * (y - 1) + (y - 1) / 4 - (y - 1) / 100 + (y - 1) / 400 - 719162 := daysI_1 y
      (repeat' (first | apply And.intro | intro _)) <;> (try omega)
      · refine ⟨k + 1, by omega, by omega, ?_, by omega⟩
        simp only [monthsSum]; omega
      · have e2 : (m - 1).toNat = k ∨ (k = 0 ∧ (m - 1).toNat = 0) := by omega
        have e3 : (m - 1).toNat = k := by omega
        rw [e1]
        unfold daysI
        rw [e3]
  · cases h
attribute [push_cast] ckDays

def yearF (d : Int) : Nat → Int → Int
  | 0, y => y
  | n + 1, y => if daysI (y + 1) 1 ≤ d then yearF d n (y + 1) else y
def monthF (y d : Int) : Nat → Int → Int
  | 0, m => m
  | n + 1, m => if m < 12 ∧ daysI y (m + 1) ≤ d then monthF y d n (m + 1) else m
def yearI (d : Int) : Int := yearF d 1000 (1970 + d / 366)
def monthI (d : Int) : Int := monthF (yearI d) d 12 1
def dateI (n : Int) : V := .agg [.int .i64 (yearI (n / 86400)), .int .i64 (monthI (n / 86400)), .int .i64 (n / 86400 - daysI (yearI (n / 86400)) (monthI (n / 86400)) + 1), .int .i64 (n % 86400 / 3600), .int .i64 (n % 86400 / 60 % 60), .int .i64 (n % 86400 % 60)]
def ckDateOf : Ck
  | [.int .i64 n] => some (0 ≤ n ∧ n ≤ 253402300799, dateI n)
  | _ => none
theorem daysI_lo {y d : Int} (h : daysI y 1 ≤ d) (hy : 1 ≤ y) (hd : d ≤ 2932896) : y ≤ 10100 := by
  rw [daysI_1] at h
  omega
theorem daysI_y0 (d : Int) (h0 : 0 ≤ d) (hd : d ≤ 2932896) : daysI (1970 + d / 366) 1 ≤ d := by
  rw [daysI_1]
  omega
theorem daysI_step {y d : Int} (h : daysI y 1 ≤ d) (hy : 1970 + d / 366 ≤ y) (h0 : 0 ≤ d) (hd : d ≤ 2932896) : y ≤ 1970 + d / 366 + 900 := by
  rw [daysI_1] at h
  omega
theorem conDateOf : Con pg 26 ckDateOf := by
  have hct := (ctA_ok conDays (ctN_ok _))
  intro args q r h hq
  unfold ckDateOf at h
  split at h
  · cases h
    rename_i n
    refine w26 (fun _ => false) [] rfl hct rfl rfl ?_
    push_cast (config := { maxSteps := 10000000 })
    (repeat (refine ⟨by omega, ?_⟩))
    generalize hd : n / 86400 = d at *
    have h0 : 0 ≤ d ∧ d ≤ 2932896 := by omega
    refine LoopW.adj ⟨hct, fol⟩ (by kernel_rfl) [] (fun t : Nat => [(2, .ptr 2 0), (3, .int .i64 d), (5, .ptr 5 0)]) (fun t => [(2, .cells [.int .i64 0, .int .i64 0, .int .i64 0, .int .i64 0, .int .i64 0, .int .i64 0]), (5, .cells [.int .i64 (1970 + d / 366 + t), .int .i64 1, .int .i64 0, .int .i64 (n % 86400 / 3600), .int .i64 (n % 86400 / 60 % 60), .int .i64 (n % 86400 % 60)])]) (fun t => daysI (1970 + d / 366 + t) 1 ≤ d ∧ t ≤ 900 ∧ yearF d (1000 - t) (1970 + d / 366 + t) = yearI d) (fun t => 1000 - t) 0 ?_ fun t ht => ?_
    · push_cast (config := { maxSteps := 10000000 })
      have := daysI_y0 d h0.1 h0.2
      simp [this, yearI]
    · push_cast (config := { maxSteps := 10000000 })
      obtain ⟨t1, t2, t3⟩ := ht
      obtain ⟨m, hm⟩ : ∃ m, 1000 - t = m + 1 := ⟨999 - t, by omega⟩
      rw [hm] at t3
      simp only [yearF] at t3
      refine ⟨by omega, by omega, fun h => ⟨by omega, t + 1, ⟨?_, ?_, ?_⟩, by omega, by omega⟩, fun h => ?_⟩
      · rw [show 1970 + d / 366 + ((t + 1 : Nat) : Int) = 1970 + d / 366 + t + 1 by omega]; exact h
      · have := daysI_step h (by omega) h0.1 h0.2; omega
      · rw [if_pos h] at t3
        rw [show 1970 + d / 366 + ((t + 1 : Nat) : Int) = 1970 + d / 366 + t + 1 by omega, show 1000 - (t + 1) = m by omega]; exact t3
      · rw [if_neg h] at t3
        rw [t3]
        have hY : 1970 ≤ yearI d ∧ yearI d ≤ 10999 := by omega
        have hYd : daysI (yearI d) 1 ≤ d := by rw [← t3]; exact t1
        clear t3 h t1
        refine LoopW.adj ⟨hct, fol⟩ (by kernel_rfl) [] (fun t : Nat => [(2, .ptr 2 0), (3, .int .i64 d), (5, .ptr 5 0)]) (fun t => [(2, .cells [.int .i64 0, .int .i64 0, .int .i64 0, .int .i64 0, .int .i64 0, .int .i64 0]), (5, .cells [.int .i64 (yearI d), .int .i64 (1 + t), .int .i64 0, .int .i64 (n % 86400 / 3600), .int .i64 (n % 86400 / 60 % 60), .int .i64 (n % 86400 % 60)])]) (fun t => t ≤ 11 ∧ daysI (yearI d) (1 + t) ≤ d ∧ monthF (yearI d) d (12 - t) (1 + t) = monthI d) (fun t => 12 - t) 0 ?_ fun t ht => ?_
        · push_cast (config := { maxSteps := 10000000 })
          simp [hYd, monthI]
        · push_cast (config := { maxSteps := 10000000 })
          obtain ⟨t1, t2, t3⟩ := ht
          obtain ⟨m, hm⟩ : ∃ m, 12 - t = m + 1 := ⟨11 - t, by omega⟩
          rw [hm] at t3
          simp only [monthF] at t3
          refine ⟨fun h => by omega, fun h => by omega, fun h => ⟨by omega, t + 1, ⟨by omega, ?_, ?_⟩, by omega, by omega⟩, fun h => ⟨by omega, ?_⟩⟩
          · rw [show 1 + ((t + 1 : Nat) : Int) = 1 + t + 1 by omega]; exact h.2
          · rw [if_pos h] at t3
            rw [show 1 + ((t + 1 : Nat) : Int) = 1 + t + 1 by omega, show 12 - (t + 1) = m by omega]; exact t3
          · have h' : ¬(1 + (t : Int) < 12 ∧ daysI (yearI d) (1 + t + 1) ≤ d) := fun hh => h hh.1 hh.2
            rw [if_neg h'] at t3
            unfold dateI
            rw [hd, ← t3]
            have b1 : -800000 ≤ daysI (yearI d) (1 + (t : Int)) ∧ daysI (yearI d) (1 + (t : Int)) ≤ 9000000 := by
              have := monthsSum_b (yearI d) (1 + (t : Int) - 1).toNat
              unfold daysI
              omega
            push_cast (config := { maxSteps := 10000000 })
            (repeat' (first | apply And.intro | intro _)) <;> (try first | assumption | contradiction | omega | exact rfl | exact trivial)
  · cases h
attribute [push_cast] ckDateOf

end Go.Abs
