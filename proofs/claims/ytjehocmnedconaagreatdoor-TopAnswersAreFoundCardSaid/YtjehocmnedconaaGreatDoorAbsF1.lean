/- what functions of this program compute: contracts, each a function's own -/
import Derived.Test.YtjehocmnedconaaGreatDoorAbsK3
import Derived.Test.YtjehocmnedconaaGreatDoorAbsFacts
import Derived.Test.YtjehocmnedconaaGreatDoorAbsF0
import Derived.Test.YtjehocmnedconaaGreatDoorAbsShelf
import Derived.Lib.SlTrimSet
import Derived.Lib.Atoi
import Derived.Lib.Itoa
import Derived.Lib.ItoaNum
import Derived.Lib.AtoiErrMem
import Derived.Lib.Repeat
import Derived.Lib.ItoaLen
import Derived.Lib.SplitLaws
import Derived.Lib.Join
import Derived.Lib.Index
import Derived.Lib.IndexBytes
import Derived.Lib.Fold
import Derived.Lib.Walk
import Derived.WalkKit
import Derived.ScopeJumps
import Derived.Deep.LoopGhost
import Derived.Laws.RangeAny
import Derived.Lib.BitFns
import Derived.Lib.TrailingZeros
import Derived.Sort.Walk0
namespace Go.Abs
open Go Go.Proofs
set_option maxHeartbeats 4000000
set_option maxRecDepth 100000
set_option linter.unusedVariables false
set_option linter.unusedSimpArgs false
def ckHexValue : Ck
  | [.int .u8 c] => some (0 ≤ c ∧ c < 256, .int .i64 (hx (UInt8.ofNat c.toNat)))
  | _ => none
theorem conHexValue : Con pg 195 ckHexValue := by
  have hct := ctN_ok pg
  intro args q r h hq
  unfold ckHexValue at h
  split at h
  · cases h
    rename_i c
    refine w195 (fun _ => false) [] rfl hct rfl rfl ?_
    push_cast (config := { maxSteps := 10000000 })
    obtain ⟨n, rfl⟩ : ∃ n : Nat, c = n := ⟨c.toNat, by omega⟩
    have e : (UInt8.ofNat n).toNat = n := by simp; omega
    unfold hx
    rw [Int.toNat_natCast, e]
    (repeat' (first | apply And.intro | intro _)) <;> (repeat' split) <;> omega
  · cases h
attribute [push_cast] ckHexValue
def ckIsBegun : Ck
  | [.sl n f, .str w] => some (isBy n f ∧ n ≤ 4611686018427387904 ∧ w.length ≤ 1000, .int .i64 (begF (bytesOf n f) w))
  | _ => none
theorem conIsBegun : Con pg 196 ckIsBegun := by
  have hct := ctN_ok pg
  intro args q r h hq
  unfold ckIsBegun at h
  split at h
  · cases h
    rename_i n f w
    refine pcall_args (args' := [.sl (bytesOf n f).length (byF (bytesOf n f)), .str w]) ⟨hq.1.vle, VLe.refl _, trivial⟩ ?_
    have hn : (bytesOf n f).length ≤ 4611686018427387904 := by rw [bytesOf_len]; exact hq.2.1
    have hw := hq.2.2
    generalize bytesOf n f = s at hn ⊢
    refine w196 (fun _ => false) [] rfl hct rfl rfl ?_
    push_cast (config := { maxSteps := 10000000 })
    refine LoopW.adj ⟨hct, fol⟩ (by kernel_rfl) [] (fun i : Nat => [(0, .sl s.length (byF s)), (1, .str w), (7, .int .i64 w.length), (8, .int .i64 i)]) (fun _ => []) (fun i => i ≤ w.length ∧ i ≤ s.length ∧ begF (s.drop i) (w.drop i) = begF s w) (fun i => w.length - i) 0 ?_ fun i hi => ?_
    · push_cast (config := { maxSteps := 10000000 })
      exact ⟨Nat.zero_le _, Nat.zero_le _⟩
    · push_cast (config := { maxSteps := 10000000 })
      obtain ⟨h1, h2, h3⟩ := hi
      refine ⟨fun hw => ⟨fun hs => ?_, fun hs => ⟨by omega, hw, fun hc => ?_, fun hc => ⟨by omega, i + 1, ⟨by omega, by omega, ?_⟩, by omega, by omega⟩⟩⟩, fun hw => ?_⟩
      · rw [← h3, List.drop_eq_nil_of_le hs, drop_at hw]; rfl
      · rw [← h3, drop_at hw, drop_at (by omega : i < s.length), begF, if_neg (fun e => hc (by rw [e]))]; rfl
      · rw [← h3, drop_at hw, drop_at (by omega : i < s.length), begF, if_pos (UInt8.toNat_inj.1 hc)]
      · rw [← h3, List.drop_eq_nil_of_le (by omega : w.length ≤ i)]
        cases s.drop i <;> rfl
  · cases h
attribute [push_cast] ckIsBegun
def ckReadChunk : Ck
  | [.sl n f] => some (isBy n f ∧ n ≤ 4611686018427000000, .tup [.sl (readL (bytesOf n f)).1.length (byF (readL (bytesOf n f)).1), .int .i64 (readL (bytesOf n f)).2.1, .int .i64 (readL (bytesOf n f)).2.2])
  | _ => none
theorem conReadChunk : Con pg 147 ckReadChunk := by
  have hct := ctA_ok conHexValue (ctA_ok conIsBegun (ctN_ok pg))
  intro args q r h hq
  unfold ckReadChunk at h
  split at h
  · cases h
    rename_i n f
    refine pcall_args (args' := [.sl (bytesOf n f).length (byF (bytesOf n f))]) ⟨hq.1.vle, trivial⟩ ?_
    have hn : (bytesOf n f).length ≤ 4611686018427000000 := by rw [bytesOf_len]; exact hq.2
    generalize bytesOf n f = s at hn ⊢
    refine w147 (fun _ => false) [] rfl hct rfl rfl ?_
    push_cast (config := { maxSteps := 10000000 })
    refine LoopW.adj ⟨hct, fol⟩ (by kernel_rfl) [] (fun t : Nat × Nat => [(0, .sl s.length (byF s)), (5, .int .i64 t.2), (6, .int .i64 t.1)]) (fun _ => []) (fun t => t.1 ≤ s.length ∧ t.2 ≤ 65536 ∧ numF (s.drop t.1) t.1 t.2 = numF s 0 0) (fun t => s.length - t.1) (0, 0) ?_ fun t ht => ?_
    · push_cast (config := { maxSteps := 10000000 })
      exact Nat.zero_le _
    · obtain ⟨i, n⟩ := t
      push_cast (config := { maxSteps := 10000000 })
      obtain ⟨h1, h2, h3⟩ : i ≤ s.length ∧ n ≤ 65536 ∧ numF (s.drop i) i n = numF s 0 0 := ht
      have hh := hx_le (s.getD i 0)
      have hu := u8_lt (s.getD i 0)
      refine ⟨fun hi => ⟨hi, by omega⟩, fun ⟨hi, hc⟩ => ⟨fun hz => ?_, fun hz => ⟨by omega, hi, by omega, by omega, fun hz2 => ?_, fun hz2 => ⟨by omega, (i + 1, 16 * n + hx (s.getD i 0)), ⟨by show i + 1 ≤ s.length; omega, by show 16 * n + hx (s.getD i 0) ≤ 65536; omega, ?_⟩, by show s.length - (i + 1) < s.length - i; omega, by simp, by simp⟩⟩⟩, fun hc => ?_⟩
      · rw [readL_bad (m := 0) (a := i + 1) (h3 ▸ numF_bad hi (by omega) (.inl (by omega)))]; exact ⟨rfl, rfl, rfl⟩
      · rw [readL_bad (m := 0) (a := i + 1) (h3 ▸ numF_bad hi (by omega) (.inr (by omega)))]; exact ⟨rfl, rfl, rfl⟩
      · rw [← h3, numF_next hi (by omega) (by omega)]
      · have e := h3 ▸ numF_end (n := n) h1 (fun hi hh => hc hi (by omega))
        have er := readL_of e.symm.symm
        obtain ⟨d1, d2⟩ := isBy_drop s i h1
        rw [d2]
        refine ⟨fun hl => ?_, fun hl => ⟨fun hz => ?_, fun hz => ⟨h1, ⟨d1, by omega⟩, fun hb => ?_, fun hb => ⟨by omega, by omega, fun hs => ?_, fun hs => ?_⟩⟩⟩⟩
        · rw [er, if_pos hl]; exact ⟨rfl, rfl, rfl⟩
        · rw [er, if_neg hl, if_pos (by omega)]; exact ⟨rfl, rfl, rfl⟩
        · rw [er, if_neg hl, if_neg (by omega), if_pos (show begF (s.drop i) crlf ≠ 0 from fun hh => hb (by rw [show ([13, 10] : List UInt8) = crlf from rfl, hh]; rfl))]; exact ⟨rfl, rfl, rfl⟩
        · have hb' : ¬begF (s.drop i) crlf ≠ 0 := fun hh => hh (by have : begF (s.drop i) crlf = begF (s.drop i) [13, 10] := rfl; omega)
          rw [er, if_neg hl, if_neg (by omega), if_neg hb', if_pos (by omega)]; exact ⟨rfl, rfl, rfl⟩
        · have hb' : ¬begF (s.drop i) crlf ≠ 0 := fun hh => hh (by have : begF (s.drop i) crlf = begF (s.drop i) [13, 10] := rfl; omega)
          rw [if_neg hl, if_neg (by omega), if_neg hb', if_neg (by omega)] at er
          have ei : ((i : Int) + 2 + n).toNat = i + 2 + n := by omega
          rw [ei]
          obtain ⟨d3, d4⟩ := isBy_drop s (i + 2 + n) (by omega)
          rw [d4]
          refine ⟨by omega, by omega, ⟨d3, by omega⟩, fun hb2 => ?_, fun hb2 => ⟨by omega, by omega, by omega, by omega, ?_⟩⟩
          · rw [er, if_pos (show begF (s.drop (i + 2 + n)) crlf ≠ 0 from fun hh => hb2 (by rw [show ([13, 10] : List UInt8) = crlf from rfl, hh]; rfl))]; exact ⟨rfl, rfl, rfl⟩
          · have hb3 : ¬begF (s.drop (i + 2 + n)) crlf ≠ 0 := fun hh => hh (by have : begF (s.drop (i + 2 + n)) crlf = begF (s.drop (i + 2 + n)) [13, 10] := rfl; omega)
            rw [if_neg hb3] at er
            rw [er]
            have b := ByI.sh (l := i + 2) (k := i + 2 + n - (i + 2)) (ByI.by s) (by omega)
            rw [show i + 2 + n - (i + 2) = n by omega] at b ⊢
            exact ⟨b, by simp, rfl⟩
  · cases h
attribute [push_cast] ckReadChunk
def readAll (b : List UInt8) : Nat → Nat → List UInt8 → List UInt8 × Nat × Nat × Nat
  | 0, _, _ => ([], 0, 0, 0)
  | k + 1, a, out =>
    if (readL (b.drop a)).2.2 = 2 then ([], 0, a, 10) else
    if (readL (b.drop a)).2.2 = 1 then (if out.length ≤ 200000 then (out, a, b.length, 15) else ([], 0, 0, 2)) else
    if 0 < (readL (b.drop a)).1.length then readAll b k (a + (readL (b.drop a)).2.1) (out ++ (readL (b.drop a)).1) else
    if 200000 < (out ++ (readL (b.drop a)).1).length then ([], 0, 0, 2) else
    if a + (readL (b.drop a)).2.1 < b.length then (out ++ (readL (b.drop a)).1, a + (readL (b.drop a)).2.1, a + (readL (b.drop a)).2.1, 3) else
    (out ++ (readL (b.drop a)).1, a + (readL (b.drop a)).2.1, 0, 0)
def readC (b : List UInt8) : List UInt8 × Nat × Nat × Nat := readAll b (b.length + 1) 0 []
theorem readL_b (s : List UInt8) : (readL s).2.2 ≤ 2 ∧ ((readL s).2.2 = 0 → (readL s).1.length + 5 ≤ (readL s).2.1 ∧ (readL s).2.1 ≤ s.length) := by
  cases he : numF s 0 0 with
  | mk ok p =>
    obtain ⟨n, i⟩ := p
    cases ok with
    | false => rw [readL_bad he]; simp
    | true =>
      rw [readL_of he]
      have hb1 := begF_b (s.drop i) crlf
      have hb2 := begF_b (s.drop (i + 2 + n)) crlf
      split
      · simp
      · split
        · simp
        · split
          · refine ⟨hb1, fun h => ?_⟩
            rename_i hh
            exact absurd h hh
          · split
            · simp
            · split
              · refine ⟨hb2, fun h => ?_⟩
                rename_i hh
                exact absurd h hh
              · rename_i h
                have hl := begF_len (Classical.not_not.1 h)
                simp only [crlf, List.length_cons, List.length_nil, List.length_drop] at hl
                refine ⟨by simp, fun _ => ⟨?_, ?_⟩⟩
                · simp only [List.length_take, List.length_drop]; omega
                · simp only; omega
def ckReadChunks : Ck
  | [.sl n f] => some (isBy n f ∧ n ≤ 140737488355328, .tup [.sl (readC (bytesOf n f)).1.length (byF (readC (bytesOf n f)).1), .int .i64 (readC (bytesOf n f)).2.1, .int .i64 (readC (bytesOf n f)).2.2.1, .int .i64 (readC (bytesOf n f)).2.2.2])
  | _ => none
theorem conReadChunks : Con pg 104 ckReadChunks := by
  have hct := ctA_ok conReadChunk (ctN_ok pg)
  intro args q r h hq
  unfold ckReadChunks at h
  split at h
  · cases h
    rename_i n f
    refine pcall_args (args' := [.sl (bytesOf n f).length (byF (bytesOf n f))]) ⟨hq.1.vle, trivial⟩ ?_
    have hn : (bytesOf n f).length ≤ 140737488355328 := by rw [bytesOf_len]; exact hq.2
    generalize bytesOf n f = s at hn ⊢
    refine w104 (fun _ => false) [.frz 41] rfl hct rfl rfl ?_
    push_cast (config := { maxSteps := 10000000 })
    refine LoopW.adj ⟨hct, fol⟩ (by kernel_rfl) [.nv 6 41 1 (byF [])] (fun t : Nat × Nat × List UInt8 => [(0, .sl s.length (byF s)), (6, .vec 41 t.2.2.length), (7, .int .i64 t.2.1)]) (fun t => [(41, .vec 1 t.2.2.length (byF t.2.2))]) (fun t => t.2.1 ≤ s.length ∧ t.2.2.length ≤ t.2.1 ∧ s.length - t.2.1 < t.1 ∧ readAll s t.1 t.2.1 t.2.2 = readC s) (fun t => t.1) (s.length + 1, 0, []) ?_ fun t ht => ?_
    · push_cast (config := { maxSteps := 10000000 })
      exact ⟨Nat.zero_le _, Nat.lt_succ_self _, rfl⟩
    · obtain ⟨k, i, l⟩ := t
      obtain ⟨h1, h2, h3, h4⟩ : i ≤ s.length ∧ l.length ≤ i ∧ s.length - i < k ∧ readAll s k i l = readC s := ht
      push_cast (config := { maxSteps := 10000000 })
      obtain ⟨d1, d2⟩ := isBy_drop s i h1
      rw [d2]
      obtain ⟨r1, r2⟩ := readL_b (s.drop i)
      simp only [List.length_drop] at r2
      have bp := ByI.pure (ByI.by l)
      obtain ⟨k, rfl⟩ : ∃ k', k = k' + 1 := ⟨k - 1, by omega⟩
      simp only [readAll] at h4
      generalize readL (s.drop i) = R at h4 r1 r2 ⊢
      obtain ⟨body, long, how⟩ := R
      simp only at h4 r1 r2 ⊢
      have ba := ByI.app (ByI.by l) (ByI.by body) rfl
      refine ⟨h1, ⟨d1, by omega⟩, fun hc => ⟨bp, ?_⟩, fun hc => ⟨fun hd => ⟨bp, ?_⟩, fun hd => ⟨fun he => ⟨bp, ?_⟩, fun he => ⟨by have := r2 (by omega); omega, by have := r2 (by omega); omega, fun hb => ⟨(k, i + long, l ++ body), ⟨by have := r2 (by omega); show i + long ≤ s.length; omega, by have := r2 (by omega); simp; omega, by have := r2 (by omega); show s.length - (i + long) < k; omega, ?_⟩, Nat.lt_succ_self _, ⟨by simp, by simp⟩, ba⟩, fun hb => ⟨fun hl => ⟨ba.pure, ?_⟩, fun hl => ⟨fun hs => ⟨ba.pure, ?_⟩, fun hs => ⟨ba.pure, ?_⟩⟩⟩⟩⟩⟩⟩
      · rw [if_pos (by omega)] at h4
        rw [← h4]; exact ⟨rfl, rfl, rfl, rfl⟩
      · rw [if_neg (by omega), if_pos (by omega), if_pos (by omega)] at h4
        rw [← h4]; exact ⟨⟨rfl, fun _ _ => rfl⟩, rfl, rfl, rfl⟩
      · rw [if_neg (by omega), if_pos (by omega), if_neg (by omega)] at h4
        rw [← h4]; exact ⟨rfl, rfl, rfl, rfl⟩
      · rw [if_neg (by omega), if_neg (by omega), if_pos (by omega)] at h4
        exact h4
      · rw [if_neg (by omega), if_neg (by omega), if_neg (by omega), if_pos (by simp; omega)] at h4
        rw [← h4]; exact ⟨rfl, rfl, rfl, rfl⟩
      · rw [if_neg (by omega), if_neg (by omega), if_neg (by omega), if_neg (by simp; omega), if_pos (by omega)] at h4
        rw [← h4]; exact ⟨ba, by simp, by simp, rfl⟩
      · rw [if_neg (by omega), if_neg (by omega), if_neg (by omega), if_neg (by simp; omega), if_neg (by omega)] at h4
        rw [← h4]; exact ⟨ba, by simp, rfl, rfl⟩
  · cases h
attribute [push_cast] ckReadChunks
theorem sf_low (r : Nat) (v : Int) (w : World) (h1 : r < 128) (hv0 : 0 ≤ v) (hv1 : v ≤ 65535) (hc : w.cell? ⟨0, r, none⟩ = some (.int .u16 v)) :
    Calls Tryz.prog 47 #[.int .i32 r] w fun e w' => e = .returned (.int .i32 v) ∧ w' = w := by
  go_enter Tryz.func47, Tryz.ntmps47
  go_wp2
  go_ret
  exact ⟨rfl, rfl⟩
def intV : Value → Int
  | .int _ n => n
  | _ => 0
set_option maxRecDepth 1000000 in
theorem sf_orb (f : Nat → Int) (b off cap : Nat) (w : World) (hg : w.cell? ⟨1, 0, none⟩ = some (.slice (some ⟨b, off, none⟩) 94 cap)) (hcap : 94 ≤ cap) (hF : ∀ i, i < 94 → w.cell? ⟨b, off + i * 2, none⟩ = some (.int .u16 (f i)))
    (hT : w.cell? ⟨b, off + 10 * 2 + 1, none⟩ = some (.int .u16 83)) (hlt : ∀ i, i < 94 → 0 ≤ f i ∧ f i ≤ 65535 ∧ (f i < 383 ↔ i < 10)) (h10 : f 10 = 383) :
    Calls Tryz.prog 47 #[.int .i32 383] w fun e w' => e = .returned (.int .i32 83) ∧ w' = w := by
  go_enter Tryz.func47, Tryz.ntmps47
  go_wp2
  go_loop [3, 4] (fun lo hi => ∃ a c : Nat, lo = .int .i64 a ∧ hi = .int .i64 c ∧ a ≤ 10 ∧ 10 ≤ c ∧ c ≤ 94) (fun lo hi => (intV hi - intV lo).toNat)
  case atStart => exact ⟨0, 94, rfl, rfl, by omega, by omega, by omega⟩
  case round =>
    obtain ⟨a, c, rfl, rfl, h1, h2, h3⟩ := hrel
    by_cases h : a < c
    · have hm : w.cell? ⟨b, off + ((a + c) / 2) * 2, none⟩ = some (.int .u16 (f ((a + c) / 2))) := hF _ (by omega)
      obtain ⟨k0, k1, k2⟩ := hlt ((a + c) / 2) (by omega)
      go_wp2
      · go_round
        case rel => exact ⟨(a + c) / 2 + 1, c, by congr 1, rfl, by omega, by omega, by omega⟩
        case measure => simp only [intV]; omega
      · go_round
        case rel => exact ⟨a, (a + c) / 2, rfl, by congr 1, by omega, by omega, by omega⟩
        case measure => simp only [intV]; omega
    · have : a = 10 := by omega
      have : c = 10 := by omega
      subst a c
      have h20 : w.cell? ⟨b, off + 20, none⟩ = some (.int .u16 383) := by rw [hF 10 (by omega), h10]
      have h21 : w.cell? ⟨b, off + 21, none⟩ = some (.int .u16 83) := hT
      go_wp2
      go_ret
      exact ⟨rfl, rfl⟩
theorem dec_low (t : ByteArray) (x : UInt8) (w : World) (h : 0 < t.size) (hx : t[0] = x) (h1 : x.toNat < 128) :
    Calls Tryz.prog 46 #[.string t] w fun e w' => e = .returned (.tuple #[.int .i32 x.toNat, .int .i64 1]) ∧ w' = w := by
  have hne : ¬ t.toList = [] := by
    rw [toList_nil_iff_emptyBytes]
    rintro rfl
    exact absurd h (by decide)
  have hemp : t.toList.isEmpty = false := by
    cases he : t.toList with
    | nil => exact absurd he hne
    | cons => rfl
  go_enter Tryz.func46, Tryz.ntmps46
  go_wp2
  go_ret2
  exact ⟨rfl, rfl⟩
open Go.Lib
def strN : Value → Nat
  | .string s => s.size
  | _ => 0
def LowT (t : ByteArray) : Prop := t.size ≤ 1000 ∧ ∀ (j : Nat) (h : j < t.size), t[j] ∈ ([112, 105, 101, 99, 115] : List UInt8)
def okA (x y : Nat) : Prop := x = y ∨ (65 ≤ min x y ∧ min x y ≤ 90 ∧ max x y = min x y + 32)
instance (x y : Nat) : Decidable (okA x y) := by unfold okA; infer_instance
def okR (x r : Nat) : Prop := x = r ∨ (max x r < 128 ∧ 65 ≤ min x r ∧ min x r ≤ 90 ∧ max x r = min x r + 32) ∨ (x = 115 ∧ r = 383)
instance (x r : Nat) : Decidable (okR x r) := by unfold okR; infer_instance
def efR (S : ByteArray) : Nat → Nat → ByteArray → Bool
  | 0, _, _ => false
  | f + 1, pos, T => if pos < S.size then (if h : 0 < T.size then (if okR T[0].toNat (Utf8.decode S pos).1 then efR S f (pos + (Utf8.decode S pos).2) (T.extract 1 T.size) else false) else false) else (T.size : Int) == 0
def efB (s t : ByteArray) : Nat → Nat → Bool
  | 0, _ => (s.size : Int) == (t.size : Int)
  | g + 1, i => if h : i < s.size ∧ i < t.size then (if 128 ≤ bits .or .u8 ((s[i]'h.1).toNat : Int) ((t[i]'h.2).toNat : Int) then efR (s.extract i s.size) ((t.extract i t.size).size + 1) 0 (t.extract i t.size) else if okA (s[i]'h.1).toNat (t[i]'h.2).toNat then efB s t g (i + 1) else false) else false
theorem low_drop {t : ByteArray} (h : LowT t) (i : Nat) : LowT (t.extract i t.size) := by
  refine ⟨?_, fun j hj => ?_⟩
  · have := h.1
    rw [ByteArray.size_extract]; omega
  · rw [ByteArray.size_extract] at hj
    have := h.2 (i + j) (by omega)
    rw [ByteArray.getElem_extract]
    exact this
theorem low_128 {x : UInt8} (h : x ∈ ([112, 105, 101, 99, 115] : List UInt8)) : x.toNat < 128 := by
  simp only [List.mem_cons, List.not_mem_nil, or_false] at h
  rcases h with rfl | rfl | rfl | rfl | rfl <;> decide
theorem grow_iter (w : World) (S : ByteArray) (p : Nat) : World.grow w (w.iter S p) := by
  refine ⟨rfl, rfl, rfl, ?_, fun b hb => ?_⟩
  · show _ ≤ (w.heap.push _).size
    rw [Array.size_push]; omega
  · show (w.heap.push _)[b]? = _
    rw [Array.getElem?_push_lt hb, Array.getElem?_eq_getElem hb]
theorem iter_cell {w : World} {S : ByteArray} {p b o : Nat} {v : Value} (h : w.cell? ⟨b, o, none⟩ = some v) : (w.iter S p).cell? ⟨b, o, none⟩ = some v := by
  have hb : b < w.heap.size := by
    cases ho : w.heap[b]? with
    | none => simp [World.cell?, ho] at h
    | some o => exact (Array.getElem?_eq_some_iff.1 ho).1
  rw [cell_same (w := w)]
  · exact h
  · show (w.heap.push _)[b]? = _
    rw [Array.getElem?_push_lt hb, Array.getElem?_eq_getElem hb]
theorem ef_any (s t : ByteArray) (w : World) (hT : LowT t)
    (hl : ∀ x : UInt8, x ∈ ([112, 105, 101, 99] : List UInt8) → ∃ y : Nat, y < 128 ∧ y ≠ x.toNat ∧ w.cell? ⟨0, x.toNat, none⟩ = some (.int .u16 y) ∧ w.cell? ⟨0, y, none⟩ = some (.int .u16 x.toNat))
    (h115 : w.cell? ⟨0, 115, none⟩ = some (.int .u16 383)) (h83 : w.cell? ⟨0, 83, none⟩ = some (.int .u16 115))
    (horb : ∀ S p, Calls Tryz.prog 47 #[.int .i32 383] (w.iter S p) fun e w' => e = .returned (.int .i32 83) ∧ w' = w.iter S p) :
    Calls Tryz.prog 19 #[.string s, .string t] w fun e w' => e = .returned (.bool (efB s t (min s.size t.size) 0)) ∧ World.grow w w' := by
  have ht : t.size ≤ 1000 := hT.1
  obtain ⟨B, hB⟩ : ∃ B, efB s t (min s.size t.size) 0 = B := ⟨_, rfl⟩
  obtain ⟨M, hM, hM2⟩ : ∃ M : Nat, min (s.size : Int) (t.size : Int) = (M : Int) ∧ min s.size t.size = M := ⟨min s.size t.size, by omega, rfl⟩
  rw [hB]
  rw [hM2] at hB
  clear hM2
  have hMs : M ≤ s.size := by omega
  have hMt : M ≤ t.size := by omega
  go_enter Tryz.func19, Tryz.ntmps19
  go_wp2
  refine wp_scope_jumps 0 (fun a' w' => w' = w ∧ ∃ (i : Nat) (u4 u6 u7 u8 u14 u15 u16 u17 u18 u19 u20 u21 u22 u23 u24 u25 u26 u27 u28 u29 u30 u31 u32 u33 u34 u35 u36 u37 u38 u39 u40 u41 u42 u43 u44 u45 u46 u47 u48 u49 u50 u51 u52 u53 u54 : Value), a' = { tmps := #[Value.string s, Value.string t, undef, undef, u4, .int .i64 i, u6, u7, u8, undef, undef, undef, undef, undef, u14, u15, u16, u17, u18, u19, u20, u21, u22, u23, u24, u25, u26, u27, u28, u29, u30, u31, u32, u33, u34, u35, u36, u37, u38, u39, u40, u41, u42, u43, u44, u45, u46, u47, u48, u49, u50, u51, u52, u53, u54, undef, undef, undef, undef, undef, undef, undef, undef, undef, undef, undef, undef, undef, undef, undef, undef, undef, undef, undef, undef, undef, undef, undef, undef, undef, undef, undef, undef, undef, undef, undef, undef, undef, undef, undef, undef, undef, undef, undef, undef, undef, undef, undef, undef, undef, undef, undef, undef, undef, undef, undef, undef, undef, undef, undef, undef, undef, undef, undef, undef, undef, undef, undef, undef, undef, undef, undef, undef], defers := [] } ∧ i ≤ s.size ∧ i ≤ t.size ∧ efR (s.extract i s.size) ((t.extract i t.size).size + 1) 0 (t.extract i t.size) = B) (fun _ _ => 0) rfl ?_ ?_
  · go_wp2
    go_loopg [5] M (fun g s5 wx => w = wx ∧ ∃ i : Nat, i + g = M ∧ s5 = .int .i64 i ∧ efB s t g i = B)
    case atStart => exact ⟨rfl, 0, by omega, rfl, hB⟩
    case round =>
      obtain ⟨rfl, i, hig, rfl, hinv⟩ := hrel
      have HI : Aside (efB s t gk i = B) := hinv
      clear hinv hB
      cases gk with
      | zero =>
        have hiM : ¬ ((i : Int) < (M : Int)) := by omega
        obtain rfl : i = M := by omega
        go_wp2
        simp only [Exit.jump]
        go_ret
        exact ⟨by rw [← HI.out]; rfl, grow_refl _⟩
      | succ g =>
        have hiM : (i : Int) < (M : Int) := by omega
        have hisz : (i : Int) < (s.size : Int) := by omega
        have hitz : (i : Int) < (t.size : Int) := by omega
        obtain ⟨x, hx⟩ : ∃ x : UInt8, s[i]'(by omega) = x := ⟨_, rfl⟩
        obtain ⟨y, hy⟩ : ∃ y : UInt8, t[i]'(by omega) = y := ⟨_, rfl⟩
        have hst : efB s t (g + 1) i = if 128 ≤ bits .or .u8 (x.toNat : Int) (y.toNat : Int) then efR (s.extract i s.size) ((t.extract i t.size).size + 1) 0 (t.extract i t.size) else if okA x.toNat y.toNat then efB s t g (i + 1) else false := by
          rw [efB, dif_pos ⟨by omega, by omega⟩, hx, hy]
        have HS : Aside (efB s t (g + 1) i = if 128 ≤ bits .or .u8 (x.toNat : Int) (y.toNat : Int) then efR (s.extract i s.size) ((t.extract i t.size).size + 1) 0 (t.extract i t.size) else if okA x.toNat y.toNat then efB s t g (i + 1) else false) := hst
        clear hst
        go_wp2
        all_goals (try simp only [beq_iff_eq, beq_eq_false_iff_ne, ne_eq] at *)
        all_goals first
          | (go_step3
             exact ⟨rfl, rfl, i, _, _, _, _, _, _, _, _, _, _, _, _, _, _, _, _, _, _, _, _, _, _, _, _, _, _, _, _, _, _, _, _, _, _, _, _, _, _, _, _, _, _, _, _, _, rfl, by omega, by omega, by rw [← HI.out, HS.out, if_pos (by assumption)]⟩)
          | (go_roundg g
             case measure => omega
             case rel => exact ⟨rfl, i + 1, by omega, rfl, by rw [← HI.out, HS.out, if_neg (by omega), if_pos (by unfold okA; omega)]⟩)
          | (simp only [Exit.jump]
             go_ret
             exact ⟨by rw [← HI.out, HS.out, if_neg (by omega), if_neg (by unfold okA; omega)]; rfl, grow_refl _⟩)
  · rintro a' w' ⟨rfl, i, u4, u6, u7, u8, u14, u15, u16, u17, u18, u19, u20, u21, u22, u23, u24, u25, u26, u27, u28, u29, u30, u31, u32, u33, u34, u35, u36, u37, u38, u39, u40, u41, u42, u43, u44, u45, u46, u47, u48, u49, u50, u51, u52, u53, u54, rfl, his, hit, hR0⟩
    go_wp2
    go_loopw [1] (fun v1 wr => ∃ (pos : Nat) (T : ByteArray), wr = w'.iter (s.extract i s.size) pos ∧ v1 = .string T ∧ LowT T ∧ efR (s.extract i s.size) (T.size + 1) pos T = B) (fun v1 _ => strN v1)
    case atStart => exact ⟨0, _, rfl, rfl, low_drop hT i, hR0⟩
    case round =>
      obtain ⟨pos, T, rfl, rfl, hLT, hinv⟩ := hrel
      clear hR0
      generalize s.extract i s.size = S at *
      have HI : Aside (efR S (T.size + 1) pos T = B) := hinv
      clear hinv
      by_cases hp : pos < S.size
      · have hnx : ∀ ty, (Instr.next (.pointer (some ⟨w'.heap.size, 0, none⟩)) true ty).run Tryz.prog (w'.iter S pos) = _ := fun ty => run_next_any w' S pos ty hp
        have hle := decode_le S pos
        have HS : Aside (∀ (x : UInt8) (h0 : 0 < T.size), T[0] = x → efR S (T.size + 1) pos T = if okR x.toNat (Utf8.decode S pos).1 then efR S T.size (pos + (Utf8.decode S pos).2) (T.extract 1 T.size) else false) := fun x h0 hx => by
          rw [efR, if_pos hp, dif_pos h0, hx]
        have HZ : Aside (¬ 0 < T.size → efR S (T.size + 1) pos T = false) := fun h0 => by
          rw [efR, if_pos hp, dif_neg h0]
        generalize (Utf8.decode S pos).1 = R at *
        generalize (Utf8.decode S pos).2 = D at *
        by_cases hz : T.size = 0
        · go_wp2
          simp only [Exit.jump]
          go_ret
          exact ⟨by rw [← HI.out, HZ.out (by omega)]; rfl, grow_iter _ _ _⟩
        · have h0 : 0 < T.size := by omega
          obtain ⟨x, hx⟩ : ∃ x : UInt8, T[0] = x := ⟨_, rfl⟩
          have hxm : x ∈ ([112, 105, 101, 99, 115] : List UInt8) := hx ▸ hLT.2 0 h0
          have hx128 : x.toNat < 128 := low_128 hxm
          have cD := dec_low T x (w'.iter S (pos + D)) h0 hx hx128
          have hLT' := low_drop hLT 1
          have H1 : Aside (efR S (T.size + 1) pos T = if okR x.toNat R then efR S T.size (pos + D) (T.extract 1 T.size) else false) := HS.out x h0 hx
          clear HS HZ
          have hsz : (T.extract 1 T.size).size < T.size := by rw [ByteArray.size_extract]; omega
          have hsz1 : (T.extract 1 T.size).size + 1 = T.size := by rw [ByteArray.size_extract]; omega
          go_wp2_with (go_at_fn 46)
          refine cD.mono ?_
          rintro e W' ⟨rfl, rfl⟩
          go_wp2_with (go_at_fn 47)
          all_goals (try simp only [beq_iff_eq, beq_eq_false_iff_ne, ne_eq] at *)
          all_goals first
            | (go_roundw
               case rel => exact ⟨_, _, rfl, rfl, hLT', by rw [hsz1, ← HI.out, H1.out, if_pos (by unfold okR; omega)]⟩
               case measure => exact hsz)
            | (simp only [Exit.jump]
               go_ret
               exact ⟨by rw [← HI.out, H1.out, if_neg (by unfold okR; omega)]; rfl, grow_iter _ _ _⟩)
            | skip
          by_cases h5 : x = 115
          · subst h5
            have h115n : (115 : UInt8).toNat = 115 := rfl
            have c1 := sf_low 115 383 (w'.iter S (pos + D)) (by decide) (by decide) (by decide) (iter_cell h115)
            refine c1.mono ?_
            rintro e W' ⟨rfl, rfl⟩
            go_wp2_with (go_at_fn 47)
            by_cases hR : 383 < R
            · refine wp_loop_rounds 3 ?_
              rw [rounds_succ]
              go_wp2_with (go_at_fn 47)
              refine (horb S (pos + D)).mono ?_
              rintro e W' ⟨rfl, rfl⟩
              go_wp2_with (go_at_fn 47)
              rw [rounds_succ]
              go_wp2_with (go_at_fn 47)
              refine (sf_low 83 115 (w'.iter S (pos + D)) (by decide) (by decide) (by decide) (iter_cell h83)).mono ?_
              rintro e W' ⟨rfl, rfl⟩
              go_wp2_with (go_at_fn 47)
              rw [rounds_succ]
              go_wp2
              all_goals (try simp only [beq_iff_eq, beq_eq_false_iff_ne, ne_eq] at *)
              all_goals first
                | (go_roundw
                   case rel => exact ⟨_, _, rfl, rfl, hLT', by rw [hsz1, ← HI.out, H1.out, if_pos (by unfold okR; omega)]⟩
                   case measure => exact hsz)
                | (simp only [Exit.jump]
                   go_ret
                   exact ⟨by rw [← HI.out, H1.out, if_neg (by unfold okR; omega)]; rfl, grow_iter _ _ _⟩)
            · refine wp_loop_rounds 1 ?_
              rw [rounds_succ]
              go_wp2
              all_goals (try simp only [beq_iff_eq, beq_eq_false_iff_ne, ne_eq] at *)
              all_goals first
                | (go_roundw
                   case rel => exact ⟨_, _, rfl, rfl, hLT', by rw [hsz1, ← HI.out, H1.out, if_pos (by unfold okR; omega)]⟩
                   case measure => exact hsz)
                | (simp only [Exit.jump]
                   go_ret
                   exact ⟨by rw [← HI.out, H1.out, if_neg (by unfold okR; omega)]; rfl, grow_iter _ _ _⟩)
          · obtain ⟨y, y1, y2, y3, y4⟩ := hl x (by
              simp only [List.mem_cons, List.not_mem_nil, or_false] at hxm ⊢
              rcases hxm with h | h | h | h | h
              · exact .inl h
              · exact .inr (.inl h)
              · exact .inr (.inr (.inl h))
              · exact .inr (.inr (.inr h))
              · exact absurd h h5)
            have h5n : ¬ x.toNat = 115 := fun h => h5 (UInt8.toNat_inj.1 (by rw [h]; rfl))
            have c1 := sf_low x.toNat y (w'.iter S (pos + D)) hx128 (by omega) (by omega) (iter_cell y3)
            have c2 := sf_low y x.toNat (w'.iter S (pos + D)) y1 (by omega) (by omega) (iter_cell y4)
            refine c1.mono ?_
            rintro e W' ⟨rfl, rfl⟩
            go_wp2_with (go_at_fn 47)
            have hb1 : ((y : Int) == (x.toNat : Int)) = false := beq_eq_false_iff_ne.2 (by omega)
            have hb2 : (y : Int) < (R : Int) := by omega
            refine wp_loop_rounds 2 ?_
            rw [rounds_succ]
            go_wp2_with (go_at_fn 47)
            refine c2.mono ?_
            rintro e W' ⟨rfl, rfl⟩
            go_wp2_with (go_at_fn 47)
            rw [rounds_succ]
            go_wp2
            all_goals (try simp only [beq_iff_eq, beq_eq_false_iff_ne, ne_eq] at *)
            all_goals first
              | (go_roundw
                 case rel => exact ⟨_, _, rfl, rfl, hLT', by rw [hsz1, ← HI.out, H1.out, if_pos (by unfold okR; omega)]⟩
                 case measure => exact hsz)
              | (simp only [Exit.jump]
                 go_ret
                 exact ⟨by rw [← HI.out, H1.out, if_neg (by unfold okR; omega)]; rfl, grow_iter _ _ _⟩)
      · have hnx : ∀ ty, (Instr.next (.pointer (some ⟨w'.heap.size, 0, none⟩)) true ty).run Tryz.prog (w'.iter S pos) = _ := fun ty => run_next_end w' S pos ty hp
        go_wp2
        simp only [Exit.jump]
        go_ret
        exact ⟨by rw [← HI.out, efR, if_neg hp]; rfl, grow_iter _ _ _⟩
theorem tz64_16 (w : World) (hc : w.cell? ⟨10, 15, none⟩ = some (.int .u8 4)) :
    Calls Tryz.prog 210 #[.int .u64 16] w fun e w' => e = .returned (.int .i64 4) ∧ w' = w := by
  have key : IntKind.u64.wrap (bits BinOp.and IntKind.u64 16 (IntKind.u64.wrap (-16)) * 285870213051353865) / 288230376151711744 = 15 := by decide
  go_enter Tryz.func210, Tryz.ntmps210
  go_wp2_with (simp only [key])
  go_ret
  exact ⟨rfl, rfl⟩
def ckTz : Ck
  | [.int .u64 n] => some (n = 16, .int .i64 4)
  | _ => none
theorem conTz64 : Con pg 210 ckTz := by
  intro args q r h hq
  unfold ckTz at h
  split at h
  · cases h
    obtain rfl := hq
    refine pcall_shelf (by kernel_rfl) rfl fun w hw => (tz64_16 w ?_).mono fun e w' h => shelf_int h.1 (grow_eq h.2)
    exact (tabDb64 hw).cell (g := 10) (by kernel_rfl) 15 (by decide)
  · cases h
attribute [push_cast] ckTz
theorem conTz : Con pg 171 ckTz := by
  have hct := (ctA_ok conTz64 (ctN_ok _))
  intro args q r h hq
  unfold ckTz at h
  split at h
  · cases h
    rename_i n
    refine w171 (fun _ => false) [] rfl hct rfl rfl ?_
    push_cast (config := { maxSteps := 10000000 })
    exact hq
  · cases h
def ckPow2 : Ck
  | [.int .i64 n] => some (n = 16, .bool true)
  | _ => none
theorem conPow2 : Con pg 170 ckPow2 := by
  have hct := ctN_ok pg
  intro args q r h hq
  unfold ckPow2 at h
  split at h
  · cases h
    rename_i n
    refine w170 (fun _ => false) [] rfl hct rfl rfl ?_
    push_cast (config := { maxSteps := 10000000 })
    subst hq
    decide
  · cases h
attribute [push_cast] ckPow2
def hexC (n : Nat) : UInt8 := if n < 10 then UInt8.ofNat (48 + n) else UInt8.ofNat (87 + n)
def hexL (u : Nat) : List UInt8 := if h : u < 16 then [hexC u] else hexL (u / 16) ++ [hexC (u % 16)]
termination_by u
decreasing_by omega
def arrV (m : List UInt8) : List V := List.replicate (65 - m.length) (.int .u8 0) ++ m.map fun c => .int .u8 c.toNat
theorem arrV_len {m : List UInt8} (h : m.length ≤ 65) : (arrV m).length = 65 := by simp [arrV]; omega
theorem vle1_refl (x : V) : vle1 x x := by cases x <;> simp [vle1]
theorem vleR_refl (l : List V) : vleR vle1 l l := by
  induction l with
  | nil => trivial
  | cons x l ih => exact ⟨vle1_refl x, ih⟩
theorem setR_arr {m : List UInt8} (h : m.length ≤ 64) (c : UInt8) : setR (arrV m) (64 - m.length) [.int .u8 c.toNat] = arrV (c :: m) := by
  obtain ⟨k, hk⟩ : ∃ k, 64 - m.length = k := ⟨_, rfl⟩
  have e1 : 65 - m.length = k + 1 := by omega
  have e2 : 65 - (c :: m).length = k := by simp; omega
  unfold setR arrV
  rw [e1, e2, hk, List.replicate_succ']
  have t1 : (List.replicate k (V.int .u8 0) ++ [V.int .u8 0] ++ m.map fun c => V.int .u8 c.toNat).take k = List.replicate k (V.int .u8 0) := by
    rw [List.append_assoc, List.take_left' (by simp)]
  have t2 : (List.replicate k (V.int .u8 0) ++ [V.int .u8 0] ++ m.map fun c => V.int .u8 c.toNat).drop (k + [V.int .u8 (c.toNat : Int)].length) = m.map fun c => V.int .u8 c.toNat := by
    rw [List.drop_left' (by simp)]
  rw [t1, t2]
  simp
theorem arrV_at {m : List UInt8} (h : m.length ≤ 65) {i : Nat} (hi : i < m.length) : (arrV m).getD (65 - m.length + i) .any = .int .u8 (m.getD i 0).toNat := by
  unfold arrV
  rw [List.getD_eq_getElem?_getD, List.getElem?_append_right (by simp)]
  simp [hi, List.getD_eq_getElem?_getD]
theorem bytesOf_arr {m : List UInt8} (h : m.length ≤ 65) : bytesOf m.length (fun i => (arrV m).getD (65 - m.length + i) .any) = m := by
  unfold bytesOf
  apply List.ext_getElem
  · simp
  · intro i h1 h2
    simp only [List.getElem_map, List.getElem_range]
    rw [arrV_at h (by simpa using h1)]
    simp only [V.toByte, Int.toNat_natCast]
    rw [List.getD_eq_getElem?_getD, List.getElem?_eq_getElem h2]
    simp
theorem hexC_at : ∀ d, d < 16 → [48, 49, 50, 51, 52, 53, 54, 55, 56, 57, 97, 98, 99, 100, 101, 102, 103, 104, 105, 106, 107, 108, 109, 110, 111, 112, 113, 114, 115, 116, 117, 118, 119, 120, 121, 122].getD d 0 = hexC d := by decide
theorem and15 (u : Nat) (h : u < 18446744073709551616) : bitsI .and .u64 (u : Int) 15 = ((u % 16 : Nat) : Int) := by
  show IntKind.u64.wrap (((BitVec.ofInt 64 (u : Int) &&& BitVec.ofInt 64 15 : BitVec 64).toNat : Nat) : Int) = _
  have e3 : (BitVec.ofInt 64 (u : Int) &&& BitVec.ofInt 64 15 : BitVec 64).toNat = u % 16 := by
    rw [BitVec.ofInt_natCast, BitVec.toNat_and, show (BitVec.ofInt 64 15 : BitVec 64).toNat = 2 ^ 4 - 1 from rfl, BitVec.toNat_ofNat, Nat.mod_eq_of_lt (by omega), Nat.and_two_pow_sub_one_eq_mod]
  rw [e3, IntKind.wrap_u64]
  omega
theorem fdiv16 (u : Nat) : (u : Int).fdiv (2 ^ min 4 IntKind.u64.bits) = ((u / 16 : Nat) : Int) := by
  rw [show (2 : Int) ^ min 4 IntKind.u64.bits = 16 from rfl, Int.fdiv_eq_ediv_of_nonneg _ (by omega)]
  omega
theorem hexL_big {u : Nat} (h : 16 ≤ u) : hexL u = hexL (u / 16) ++ [hexC (u % 16)] := by rw [hexL, dif_neg (by omega)]
theorem hexL_small {u : Nat} (h : u < 16) : hexL u = [hexC u] := by rw [hexL, dif_pos h]
def ckBits : Ck
  | [.nilsl, .int .u64 u, .int .i64 b, .bool g, .bool ap] => some (b = 16 ∧ g = false ∧ ap = false ∧ 0 ≤ u ∧ u < 4294967296, .tup [.nilsl, .str (hexL u.toNat)])
  | _ => none
theorem conBits : Con pg 135 ckBits := by
  have hct := (ctA_ok conPow2 (ctA_ok conTz (ctN_ok _)))
  intro args q r h hq
  unfold ckBits at h
  split at h
  · cases h
    rename_i u b g ap
    refine w135 (fun _ => false) [] rfl hct rfl rfl ?_
    push_cast (config := { maxSteps := 10000000 })
    obtain ⟨rfl, rfl, rfl, hq⟩ := hq
    obtain ⟨n, rfl⟩ : ∃ n : Nat, u = n := ⟨u.toNat, by omega⟩
    push_cast (config := { maxSteps := 10000000 })
    refine LoopW.adj ⟨hct, fol⟩ (by kernel_rfl) [] (fun t : List UInt8 × Nat => [(0, .nilsl), (1, .int .u64 t.2), (3, .bool false), (4, .bool false), (10, .nilsl), (11, .str []), (12, .ptr 12 0), (13, .int .i64 (65 - t.1.length)), (14, .int .u64 4), (15, .int .u64 16), (16, .int .u64 15)]) (fun t => [(12, .cells (arrV t.1))]) (fun t => hexL t.2 ++ t.1 = hexL n ∧ t.1.length ≤ 7 ∧ t.2 < 16 ^ (8 - t.1.length)) (fun t => t.2) ([], n) ?_ fun t ht => ?_
    · push_cast (config := { maxSteps := 10000000 })
      exact ⟨by omega, vleR_refl _⟩
    · obtain ⟨m, u⟩ := t
      obtain ⟨h1, h2, h3⟩ := ht
      simp only at h1 h2 h3
      have hm : (arrV m).length = 65 := arrV_len (by omega)
      have hu : u < 4294967296 := by
        refine Nat.lt_of_lt_of_le h3 (Nat.le_trans (Nat.pow_le_pow_right (by omega) (Nat.sub_le 8 m.length)) (by decide))
      have ek : (65 - (m.length : Int) - 1).toNat = 64 - m.length := by omega
      push_cast (config := { maxSteps := 10000000 })
      rw [and15 u (by omega), fdiv16, ek, hm]
      simp only [Nat.zero_add, Nat.mul_one, Int.toNat_natCast]
      have hmod : u % 16 < 16 := Nat.mod_lt _ (by omega)
      rw [hexC_at _ hmod, setR_arr (by omega), setR_arr (by omega)]
      refine ⟨fun h => ⟨by omega, by omega, by omega, by omega, (hexC (u % 16) :: m, u / 16), ⟨?_, ?_, ?_⟩, by omega, ⟨rfl, by simp; omega⟩, vleR_refl _⟩, fun h => ⟨by omega, by omega, by omega, by omega, by omega, ?_⟩⟩
      · rw [hexL_big (by omega)] at h1; simpa using h1
      · have : m.length ≠ 7 := fun e => by rw [e] at h3; omega
        simp; omega
      · have : m.length ≠ 7 := fun e => by rw [e] at h3; omega
        simp only [List.length_cons]
        obtain ⟨k, hk⟩ : ∃ k, 8 - m.length = k + 1 := ⟨7 - m.length, by omega⟩
        rw [hk, Nat.pow_succ] at h3
        rw [show 8 - (m.length + 1) = k by omega]
        omega
      · have e5 : 65 - (64 - m.length) = (hexC u :: m).length := by rw [List.length_cons]; omega
        have e6 : 64 - m.length = 65 - (hexC u :: m).length := by rw [List.length_cons]; omega
        rw [hexC_at u (by omega), e5]
        rw [hexL_small (by omega)] at h1
        rw [← h1]
        rw [e6]
        have hl : (hexC u :: m).length ≤ 65 := by simp; omega
        refine ⟨⟨by rw [arrV_len hl]; omega, fun i hi => ⟨_, arrV_at hl hi⟩⟩, bytesOf_arr hl⟩
  · cases h
attribute [push_cast] ckBits
def ckFmt : Ck
  | [.int .i64 u, .int .i64 b] => some (b = 16 ∧ 0 ≤ u ∧ u < 4294967296, .str (hexL u.toNat))
  | _ => none
theorem conFmt1 : Con pg 77 ckFmt := by
  have hct := (ctA_ok conBits (ctN_ok _))
  intro args q r h hq
  unfold ckFmt at h
  split at h
  · cases h
    rename_i u b
    refine w77 (fun _ => false) [] rfl hct rfl rfl ?_
    push_cast (config := { maxSteps := 10000000 })
    obtain ⟨rfl, hq⟩ := hq
    push_cast (config := { maxSteps := 10000000 })
    rw [show u % 18446744073709551616 = u by omega]
    exact ⟨⟨by omega, by omega⟩, rfl⟩
  · cases h
attribute [push_cast] ckFmt
theorem conFmt : Con pg 42 ckFmt := by
  have hct := (ctA_ok conFmt1 (ctN_ok _))
  intro args q r h hq
  unfold ckFmt at h
  split at h
  · cases h
    rename_i u b
    refine w42 (fun _ => false) [] rfl hct rfl rfl ?_
    push_cast (config := { maxSteps := 10000000 })
    obtain ⟨rfl, hq⟩ := hq
    push_cast (config := { maxSteps := 10000000 })
    exact hq
  · cases h
def chunksL (k : Nat) (s : List UInt8) : List UInt8 :=
  if h : s = [] ∨ k = 0 then [48, 13, 10, 13, 10] else hexL (min k s.length) ++ [13, 10] ++ s.take (min k s.length) ++ [13, 10] ++ chunksL k (s.drop (min k s.length))
termination_by s.length
decreasing_by
  have : s.length ≠ 0 := fun e => h (.inl (List.length_eq_zero_iff.1 e))
  simp only [List.length_drop]
  omega
def ckChunks0 : Ck
  | [.sl n f, .int .i64 k] => some (isBy n f ∧ n ≤ 1000000 ∧ 1 ≤ k ∧ k ≤ 65536, .sl (chunksL k.toNat (bytesOf n f)).length (byF (chunksL k.toNat (bytesOf n f))))
  | _ => none
theorem hexL_len : ∀ (k u : Nat), u < 16 ^ k → (hexL u).length ≤ k + 1
  | 0, u, h => by rw [hexL_small (by omega)]; simp
  | k + 1, u, h => by
    by_cases h1 : u < 16
    · rw [hexL_small h1]; simp
    · rw [hexL_big (by omega)]
      have := hexL_len k (u / 16) (by rw [Nat.pow_succ] at h; omega)
      simp; omega
theorem chunksL_more {k : Nat} {s : List UInt8} (hs : 0 < s.length) (hk : 0 < k) : chunksL k s = hexL (min k s.length) ++ [13, 10] ++ s.take (min k s.length) ++ [13, 10] ++ chunksL k (s.drop (min k s.length)) := by
  rw [chunksL, dif_neg]
  rintro (h | h)
  · subst h; simp at hs
  · omega
theorem chunksL_len {k : Nat} (h1 : 1 ≤ k) (h2 : k ≤ 65536) : ∀ (n : Nat) (s : List UInt8), s.length ≤ n → (chunksL k s).length ≤ 5 + 11 * s.length := by
  intro n
  induction n with
  | zero =>
    intro s hs
    have : s = [] := List.length_eq_zero_iff.1 (by omega)
    subst this
    rw [chunksL, dif_pos (.inl rfl)]; simp
  | succ n ih =>
    intro s hs
    by_cases h0 : s.length = 0
    · have : s = [] := List.length_eq_zero_iff.1 (by omega)
      subst this
      rw [chunksL, dif_pos (.inl rfl)]; simp
    · rw [chunksL_more (by omega) (by omega)]
      have hx := hexL_len 5 (min k s.length) (by omega)
      have hm : 1 ≤ min k s.length ∧ min k s.length ≤ s.length := by omega
      have := ih (s.drop (min k s.length)) (by simp; omega)
      simp only [List.length_append, List.length_cons, List.length_nil, List.length_take, List.length_drop] at this ⊢
      omega
theorem conChunks0 : Con pg 16 ckChunks0 := by
  have hct := ctA_ok conFmt (ctN_ok pg)
  intro args q r h hq
  unfold ckChunks0 at h
  split at h
  · cases h
    rename_i n f k
    refine pcall_args (args' := [.sl (bytesOf n f).length (byF (bytesOf n f)), .int .i64 k]) ⟨hq.1.vle, VLe.refl _, trivial⟩ ?_
    have hn : (bytesOf n f).length ≤ 1000000 := by rw [bytesOf_len]; exact hq.2.1
    have hk := hq.2.2
    generalize bytesOf n f = s at hn ⊢
    obtain ⟨k, rfl⟩ : ∃ k' : Nat, k = k' := ⟨k.toNat, by omega⟩
    refine w16 (fun _ => false) [.frz 18] rfl hct rfl rfl ?_
    push_cast (config := { maxSteps := 10000000 })
    refine LoopW.adj ⟨hct, fol⟩ (by kernel_rfl) [.nv 5 18 1 (byF [])] (fun t : List UInt8 × List UInt8 => [(0, .sl t.1.length (byF t.1)), (1, .int .i64 k), (5, .vec 18 t.2.length)]) (fun t => [(18, .vec 1 t.2.length (byF t.2))]) (fun t => t.2 ++ chunksL k t.1 = chunksL k s ∧ t.1.length ≤ 1000000) (fun t => t.1.length) (s, []) ?_ fun t ht => ?_
    · push_cast (config := { maxSteps := 10000000 })
      exact hn
    · obtain ⟨r, l⟩ := t
      push_cast (config := { maxSteps := 10000000 })
      obtain ⟨h1, h2⟩ : l ++ chunksL k r = chunksL k s ∧ r.length ≤ 1000000 := ht
      have hl := chunksL_len (k := k) (by omega) (by omega) _ s (Nat.le_refl _)
      have hl2 := congrArg List.length h1
      simp only [List.length_append] at hl2
      have e : min (k : Int) (r.length : Int) = ((min k r.length : Nat) : Int) := by omega
      rw [e]
      simp only [Int.toNat_natCast]
      refine ⟨fun hr => ?_, fun hr => ?_⟩
      · have h3 := chunksL_more (k := k) (s := r) (by omega) (by omega)
        rw [h3] at h1 hl2
        have hx := hexL_len 5 (min k r.length) (by omega)
        have hm : 1 ≤ min k r.length ∧ min k r.length ≤ r.length ∧ min k r.length ≤ 65536 := by omega
        generalize min k r.length = m at *
        have b1 := ByI.app (ByI.by l) (ByI.by (hexL m ++ [13, 10])) (k := l.length + ((hexL m).length + 2)) (by simp)
        have b2 := ByI.app b1 (ByI.sh (l := 0) (k := m) (ByI.by r) (by omega)) rfl
        have b3 := ByI.app b2 (ByI.by [13, 10]) rfl
        have b4 := ByI.sh (l := m) (k := r.length - m) (ByI.by r) (by omega)
        have e4 : (r.drop m).take (r.length - m) = r.drop m := List.take_of_length_le (by simp)
        rw [e4] at b4
        simp only [List.drop_zero] at b3
        simp only [List.length_append, List.length_cons, List.length_nil, List.length_take, Nat.zero_add] at hl2
        refine ⟨by omega, by omega, by omega, by omega, by omega, by omega, by omega, (r.drop m, l ++ (hexL m ++ [13, 10]) ++ r.take m ++ [13, 10]), ⟨?_, by simp; omega⟩, by simp; omega, ⟨b4, b3.1⟩, b3⟩
        rw [← h1]; simp
      · have : r = [] := List.length_eq_zero_iff.1 (by omega)
        subst this
        have h3 : chunksL k [] = [48, 13, 10, 13, 10] := by rw [chunksL, dif_pos (.inl rfl)]
        rw [h3] at h1
        have b := ByI.app (ByI.by l) (ByI.by [48, 13, 10, 13, 10]) (k := l.length + 5) rfl
        have b' := b
        rw [h1] at b'
        push_cast (config := { maxSteps := 10000000 })
        exact ⟨by omega, b.pure, b'⟩
  · cases h
attribute [push_cast] ckChunks0
theorem hx_hexC : ∀ d, d < 16 → hx (hexC d) = d := by decide
theorem numF_hex : ∀ (u : Nat), u ≤ 65536 → ∀ t, numF (hexL u ++ t) 0 0 = numF t (hexL u).length u := by
  intro u
  induction u using Nat.strongRecOn with
  | ind u ih =>
    intro hu t
    by_cases h : u < 16
    · rw [hexL_small h]
      simp only [List.cons_append, List.nil_append, numF]
      rw [hx_hexC u h, if_pos h, if_neg (by omega)]
      simp
    · rw [hexL_big (by omega), List.append_assoc, ih (u / 16) (by omega) (by omega)]
      simp only [List.cons_append, List.nil_append, numF]
      rw [hx_hexC _ (Nat.mod_lt _ (by omega)), if_pos (Nat.mod_lt _ (by omega)), if_neg (by omega)]
      rw [show 16 * (u / 16) + u % 16 = u by omega]
      simp
theorem hexL_pos (u : Nat) : 1 ≤ (hexL u).length := by
  by_cases h : u < 16
  · rw [hexL_small h]; simp
  · rw [hexL_big (by omega)]; simp
theorem hx13 : ¬hx 13 < 16 := by decide
theorem numF_13 (t : List UInt8) (a n : Nat) : numF (13 :: t) a n = (true, n, a) := by rw [numF, if_neg hx13]
theorem readL_chunk {m : Nat} (hm : m ≤ 65536) {data : List UInt8} (hd : data.length = m) (rest : List UInt8) :
    readL (hexL m ++ ([13, 10] ++ (data ++ ([13, 10] ++ rest)))) = (data, (hexL m).length + 2 + m + 2, 0) := by
  have hp := hexL_pos m
  have e : numF (hexL m ++ ([13, 10] ++ (data ++ ([13, 10] ++ rest)))) 0 0 = (true, m, (hexL m).length) := by
    rw [numF_hex m hm]; exact numF_13 _ _ _
  rw [readL_of e]
  generalize hh : hexL m = H at *
  have d1 : (H ++ ([13, 10] ++ (data ++ ([13, 10] ++ rest)))).drop H.length = [13, 10] ++ (data ++ ([13, 10] ++ rest)) := List.drop_left
  have d2 : (H ++ ([13, 10] ++ (data ++ ([13, 10] ++ rest)))).drop (H.length + 2) = data ++ ([13, 10] ++ rest) := by
    rw [← List.drop_drop, d1]; rfl
  have d3 : (H ++ ([13, 10] ++ (data ++ ([13, 10] ++ rest)))).drop (H.length + 2 + m) = [13, 10] ++ rest := by
    rw [← List.drop_drop, d2, ← hd, List.drop_left]
  rw [d1, d2, d3]
  have b1 : ∀ t, begF ([13, 10] ++ t) crlf = 0 := fun t => by simp [begF, crlf]
  rw [b1, b1, if_neg (by simp), if_neg (by omega), if_neg (by simp), if_neg (by simp; omega), if_neg (by simp), List.take_left' hd]
theorem chunksL_nil (k : Nat) : chunksL k [] = hexL 0 ++ ([13, 10] ++ ([] ++ [13, 10])) := by
  rw [chunksL, dif_pos (.inl rfl), hexL_small (by omega)]; rfl
theorem chunksL_cons {k : Nat} {s : List UInt8} (hs : 0 < s.length) (hk : 0 < k) : chunksL k s = (hexL (min k s.length) ++ ([13, 10] ++ (s.take (min k s.length) ++ [13, 10]))) ++ chunksL k (s.drop (min k s.length)) := by
  rw [chunksL_more hs hk]; simp only [List.append_assoc]
theorem read_all {k : Nat} (h1 : 1 ≤ k) (h2 : k ≤ 65536) : ∀ (n : Nat) (body : List UInt8), body.length ≤ n → ∀ (pre out : List UInt8) (fuel : Nat), (chunksL k body).length < fuel → out.length + body.length ≤ 200000 →
    readAll (pre ++ chunksL k body) fuel pre.length out = (out ++ body, (pre ++ chunksL k body).length, 0, 0) := by
  intro n
  induction n with
  | zero =>
    intro body hb pre out fuel hf ho
    have : body = [] := List.length_eq_zero_iff.1 (by omega)
    subst this
    obtain ⟨f, rfl⟩ : ∃ f, fuel = f + 1 := ⟨fuel - 1, by omega⟩
    simp only [readAll, List.drop_left]
    have hr := readL_chunk (m := 0) (by omega) (data := []) rfl []
    rw [chunksL_nil]
    rw [List.append_nil] at hr
    rw [hr]
    have hl : (hexL 0).length = 1 := by rw [hexL_small (by omega)]; rfl
    simp only [List.length_nil, List.append_nil, List.length_append, List.length_cons, hl]
    rw [if_neg (by omega), if_neg (by omega), if_neg (by omega), if_neg (by simp at ho; omega), if_neg (by omega)]
  | succ n ih =>
    intro body hb pre out fuel hf ho
    by_cases h0 : body.length = 0
    · exact ih body (by omega) pre out fuel hf ho
    · have hc := chunksL_cons (k := k) (s := body) (by omega) (by omega)
      obtain ⟨f, rfl⟩ : ∃ f, fuel = f + 1 := ⟨fuel - 1, by omega⟩
      simp only [readAll, List.drop_left]
      have hm : 1 ≤ min k body.length ∧ min k body.length ≤ body.length ∧ min k body.length ≤ 65536 := by omega
      have hr := readL_chunk (m := min k body.length) hm.2.2 (data := body.take (min k body.length)) (by simp) (chunksL k (body.drop (min k body.length)))
      have hr' : readL (chunksL k body) = (body.take (min k body.length), (hexL (min k body.length)).length + 2 + min k body.length + 2, 0) := by
        rw [hc]; simp only [List.append_assoc] at hr ⊢; exact hr
      generalize min k body.length = m at *
      rw [hr']
      have hl : (body.take m).length = m := by simp; omega
      rw [if_neg (by simp), if_neg (by simp), if_pos (by simp only [hl]; omega)]
      have hlen := congrArg List.length hc
      simp only [List.length_append, hl, List.length_cons, List.length_nil] at hlen
      have := ih (body.drop m) (by simp; omega) (pre ++ (hexL m ++ ([13, 10] ++ (body.take m ++ [13, 10])))) (out ++ body.take m) f (by omega) (by simp; omega)
      rw [List.append_assoc pre, ← hc] at this
      rw [show List.length (pre ++ (hexL m ++ (([13, 10] : List UInt8) ++ (body.take m ++ [13, 10])))) = pre.length + ((hexL m).length + 2 + m + 2) by simp only [List.length_append, hl, List.length_cons, List.length_nil]; omega] at this
      rw [this, List.append_assoc, List.take_append_drop]
theorem readC_all {k : Nat} (h1 : 1 ≤ k) (h2 : k ≤ 65536) {body : List UInt8} (hb : body.length ≤ 200000) : readC (chunksL k body) = (body, (chunksL k body).length, 0, 0) := by
  have := read_all h1 h2 _ body (Nat.le_refl _) [] [] ((chunksL k body).length + 1) (by omega) (by simp; omega)
  simpa [readC] using this
end Go.Abs
