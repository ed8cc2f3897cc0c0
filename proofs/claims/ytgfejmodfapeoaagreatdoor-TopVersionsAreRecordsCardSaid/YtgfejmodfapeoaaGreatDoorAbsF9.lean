/- what functions of this program compute: contracts, each a function's own -/
import Derived.Test.YtgfejmodfapeoaaGreatDoorAbsK2
import Derived.Test.YtgfejmodfapeoaaGreatDoorAbsFacts
import Derived.Test.YtgfejmodfapeoaaGreatDoorAbsF8
import Derived.Test.YtgfejmodfapeoaaGreatDoorAbsShelf
import Derived.Lib.SplitLaws
import Derived.Lib.SlTrimSet
import Derived.Lib.Atoi
import Derived.Lib.Itoa
import Derived.Lib.ItoaNum
import Derived.Lib.AtoiErrMem
import Derived.Lib.Join
import Derived.Lib.IndexMore
import Derived.Lib.Repeat
import Derived.Lib.ItoaLen
import Derived.Lib.Index
import Derived.Lib.IndexBytes
namespace Go.Abs
open Go Go.Proofs
set_option maxHeartbeats 4000000
set_option maxRecDepth 100000
set_option linter.unusedVariables false
set_option linter.unusedSimpArgs false
/- a record is read as it was written, and what was read is written so -/
theorem line_at {B w v rest : List UInt8} {i : Nat} (h : B.drop i = lnB2 w v ++ rest) (hw : bareL w = true) (hv : bareL v = true) : lineOk B i w = true ∧ lineV B i w = v ∧ lnN B i = i + (lnB2 w v).length ∧ B.drop (i + (lnB2 w v).length) = rest := by
  have hb : bareL (w ++ [58, 32] ++ v) = true := by rw [bare_app, bare_app, hw, hv]; rfl
  have e : lineS (B.drop i) = some (w ++ [58, 32] ++ v) := by
    rw [h]
    exact lineS_app _ rest hb
  have hd : B.drop (i + (lnB2 w v).length) = rest := by rw [← List.drop_drop, h, List.drop_left]
  unfold lineOk lineV lnB lnS lnN
  rw [e]
  refine ⟨?_, ?_, ?_, hd⟩
  · rw [Option.isSome_some, Bool.true_and]
    exact hasPre_iff.2 ⟨v, by simp⟩
  · simp
  · simp [lnB2]; omega
theorem line_inv {B w : List UInt8} {i : Nat} (h : lineOk B i w = true) : B.drop i = lnB2 w (lineV B i w) ++ B.drop (lnN B i) := by
  unfold lineOk at h
  simp only [Bool.and_eq_true] at h
  obtain ⟨h1, h2⟩ := h
  unfold lnB at h1
  cases e : lineS (B.drop i) with
  | none => rw [e] at h1; cases h1
  | some s =>
    have hi := lineS_inv e
    unfold lineV lnS lnN
    unfold lnS at h2
    rw [e] at h2 ⊢
    simp only [Option.getD_some] at h2 ⊢
    obtain ⟨r, hr⟩ := hasPre_iff.1 h2
    rw [List.drop_drop] at hi
    rw [hi]
    have e1 : s.drop (w.length + 2) = r := by
      rw [hr, show w.length + 2 = (w ++ [58, 32]).length by simp, List.drop_left]
    rw [e1, show i + s.length + 2 = i + (s.length + 2) by omega]
    unfold lnB2
    rw [hr]
theorem isL_at {B rest : List UInt8} {i : Nat} {w v : List UInt8} (h : B.drop i = lnB2 w v ++ rest) : isL B i w = true := by
  unfold isL
  rw [h]
  refine decide_eq_true ?_
  unfold lnB2
  rw [show w ++ [58, 32] ++ v ++ [13, 10] ++ rest = (w ++ [58, 32]) ++ (v ++ [13, 10] ++ rest) by simp, show w.length + 2 = (w ++ [58, 32]).length by simp, List.take_left]
theorem isL_not {B : List UInt8} {i : Nat} {w : List UInt8} (c : UInt8) (k : Nat) (hk : k < w.length + 2) (h : (B.drop i).getD k 0 ≠ (w ++ [58, 32]).getD k 0) : isL B i w = false := by
  unfold isL
  refine decide_eq_false fun x => h ?_
  rw [← x, List.getD_eq_getElem?_getD, List.getD_eq_getElem?_getD, List.getElem?_take_of_lt hk]
/-- a head line is no line of the length -/
theorem isL_hd {B rest n v : List UInt8} {i : Nat} (h : B.drop i = n ++ [58, 32] ++ v ++ [13, 10] ++ rest) (hn : ∀ x ∈ n, x ≠ 58) {w : List UInt8} (hw : ∀ x ∈ w, x ≠ 58) (hne : n ≠ w) : isL B i w = false := by
  unfold isL
  refine decide_eq_false fun x => hne ?_
  have h1 : Lib.indexByte (n ++ 58 :: (32 :: v ++ [13, 10] ++ rest)) 58 = n.length := by
    have : ∀ (n r : List UInt8), (∀ x ∈ n, x ≠ 58) → Lib.indexByte (n ++ 58 :: r) 58 = n.length := by
      intro n r hn
      induction n with
      | nil => simp [Lib.indexByte]
      | cons a t ih =>
        have ha := hn a (by simp)
        have := ih fun x hx => hn x (by simp [hx])
        simp only [List.cons_append, Lib.indexByte]
        rw [if_neg (by simpa using ha), this, if_neg (by first | (simp; done) | (simp; omega))]
        simp
    exact this _ _ hn
  have e1 : B.drop i = (w ++ [58, 32]) ++ (B.drop i).drop (w.length + 2) := by
    conv => lhs; rw [← List.take_append_drop (w.length + 2) (B.drop i), x]
  have h2 : Lib.indexByte (w ++ 58 :: (32 :: (B.drop i).drop (w.length + 2))) 58 = w.length := by
    have : ∀ (n r : List UInt8), (∀ x ∈ n, x ≠ 58) → Lib.indexByte (n ++ 58 :: r) 58 = n.length := by
      intro n r hn
      induction n with
      | nil => simp [Lib.indexByte]
      | cons a t ih =>
        have ha := hn a (by simp)
        have := ih fun x hx => hn x (by simp [hx])
        simp only [List.cons_append, Lib.indexByte]
        rw [if_neg (by simpa using ha), this, if_neg (by first | (simp; done) | (simp; omega))]
        simp
    exact this _ _ hw
  have e2 : n ++ 58 :: (32 :: v ++ [13, 10] ++ rest) = w ++ 58 :: (32 :: (B.drop i).drop (w.length + 2)) := by
    have ea : n ++ 58 :: (32 :: v ++ [13, 10] ++ rest) = B.drop i := by rw [h]; simp
    rw [ea]
    conv => lhs; rw [e1]
    simp
  rw [e2, h2] at h1
  have hl : n.length = w.length := by omega
  exact (List.append_inj e2 hl).1
theorem hds_back {B rest v : List UInt8} : ∀ (hds : List Hd) (k i : Nat) (out : List Hd), (∀ h ∈ hds, tokL h.name = true ∧ valueL h.value = true ∧ h.name ≠ wLng) → hds.length < k → B.drop i = headsB hds ++ (lnB2 wLng v ++ rest) → hdsR B k i out = (true, i + (headsB hds).length, out ++ hds)
  | [], k + 1, i, out, _, _, h => by
    have hl : isL B i [108, 101, 110, 103, 116, 104] = true := isL_at (w := wLng) (v := v) (rest := rest) (by rw [h]; simp [headsB])
    rw [hdsR, if_pos hl]
    simp [headsB]
  | x :: t, k + 1, i, out, hok, hk, h => by
    obtain ⟨ht, hv, hne'⟩ := hok x (by simp)
    simp only [tokL, valueL, Bool.and_eq_true, decide_eq_true_eq] at ht hv
    have hbare : bareL (x.name ++ [58, 32] ++ x.value) = true := by
      rw [bare_app, bare_app]
      have b1 : bareL x.name = true := all_imp ht.2 fun c hc => by have := tok_plain c hc; simp [this.1, this.2.1]
      have b2 : bareL x.value = true := all_imp hv.2 fun c hc => by have := val_plain c hc; simp [this.1, this.2]
      rw [b1, b2]; rfl
    have hn : ∀ y ∈ x.name, y ≠ 58 := fun y hy => (tok_plain y (List.all_eq_true.1 ht.2 y hy)).2.2.2
    have hne : x.name ≠ [] := fun e => by rw [e] at ht; simp at ht
    have h' : B.drop i = (x.name ++ [58, 32] ++ x.value) ++ [13, 10] ++ (headsB t ++ (lnB2 wLng v ++ rest)) := by rw [h]; simp [headsB, headB]
    have e : lineS (B.drop i) = some (x.name ++ [58, 32] ++ x.value) := by rw [h']; exact lineS_app _ _ hbare
    have hh := hd_app hn hne
    have e1 : lnB B i = true := by unfold lnB; rw [e]; rfl
    have e2 : lnS B i = x.name ++ [58, 32] ++ x.value := by unfold lnS; rw [e]; rfl
    have e3 : lnN B i = i + (headB x).length := by unfold lnN; rw [e]; simp [headB]; omega
    have hd : B.drop (i + (headB x).length) = headsB t ++ (lnB2 wLng v ++ rest) := by
      rw [← List.drop_drop, h, show headsB (x :: t) ++ (lnB2 wLng v ++ rest) = headB x ++ (headsB t ++ (lnB2 wLng v ++ rest)) by simp [headsB], List.drop_left]
    have hL : isL B i [108, 101, 110, 103, 116, 104] = false := isL_hd (n := x.name) (v := x.value) (rest := headsB t ++ (lnB2 wLng v ++ rest)) (by rw [h']) hn (by decide) hne'
    rw [hdsR, if_neg (by rw [hL]; simp), e1, e2, hh.1, if_pos (show (true && true) = true from rfl), hh.2, e3]
    have ih := hds_back t k (i + (headB x).length) (out ++ [x]) (fun y hy => hok y (by simp [hy])) (by simp at hk; omega) hd
    rw [ih]
    simp [headsB]; omega
theorem hds_inv {B : List UInt8} : ∀ (k i : Nat) (out : List Hd), (hdsR B k i out).1 = true → ∃ hs, (hdsR B k i out).2.2 = out ++ hs ∧ B.drop i = headsB hs ++ B.drop (hdsR B k i out).2.1 ∧ isL B (hdsR B k i out).2.1 wLng = true
  | 0, i, out, h => by simp [hdsR] at h
  | k + 1, i, out, h => by
    rw [hdsR] at h ⊢
    by_cases hL : isL B i [108, 101, 110, 103, 116, 104] = true
    · rw [if_pos hL]
      exact ⟨[], by simp, by simp [headsB], hL⟩
    · rw [if_neg hL] at h ⊢
      by_cases g : (lnB B i && hdB (lnS B i)) = true
      · rw [if_pos g] at h ⊢
        obtain ⟨hs, a1, a2, a3⟩ := hds_inv k _ _ h
        refine ⟨hdV (lnS B i) :: hs, by rw [a1]; simp, ?_, a3⟩
        clear a1 a3 h
        generalize (hdsR B k (lnN B i) (out ++ [hdV (lnS B i)])).2.1 = J at a2 ⊢
        simp only [Bool.and_eq_true] at g
        have g1 := g.1
        unfold lnB at g1
        cases e : lineS (B.drop i) with
        | none => rw [e] at g1; cases g1
        | some s =>
          have hi := lineS_inv e
          have es : lnS B i = s := by unfold lnS; rw [e]; rfl
          have en : lnN B i = i + (s.length + 2) := by unfold lnN; rw [e]; simp; omega
          rw [List.drop_drop, ← en, a2] at hi
          rw [hi]
          have := hd_inv g.2
          rw [es] at this
          rw [es]
          have e3 : headsB (hdV s :: hs) = ((hdV s).name ++ [58, 32] ++ (hdV s).value) ++ [13, 10] ++ headsB hs := by simp [headsB, headB]
          rw [e3, ← this]
          simp
      · rw [if_neg g] at h; cases h
theorem nm_bare {s : List UInt8} (h : nameL s = true) : bareL s = true := by
  unfold nameL at h
  simp only [Bool.and_eq_true] at h
  refine all_imp h.2 fun c hc => ?_
  have : nmB c = true → c ≠ 13 ∧ c ≠ 10 := by
    refine u8_all (P := fun c => nmB c = true → c ≠ 13 ∧ c ≠ 10) ?_ c
    decide +kernel
  simp [this hc]
theorem tg_bare {s : List UInt8} (h : targetL s = true) : bareL s = true := by
  unfold targetL at h
  simp only [Bool.and_eq_true] at h
  exact all_imp h.2 fun c hc => by have := tg_plain c hc; simp [this.1, this.2.1]
theorem dgt_bare {s : List UInt8} (h : s.all isDg = true) : bareL s = true := by
  refine all_imp h fun c hc => ?_
  have : isDg c = true → c ≠ 13 ∧ c ≠ 10 := by
    refine u8_all (P := fun c => isDg c = true → c ≠ 13 ∧ c ≠ 10) ?_ c
    decide +kernel
  simp [this hc]
theorem kindW_bare (k : Nat) : bareL (kindW.getD k []) = true := by
  by_cases h : k < 5
  · rcases (by omega : k = 0 ∨ k = 1 ∨ k = 2 ∨ k = 3 ∨ k = 4) with rfl | rfl | rfl | rfl | rfl <;> decide
  · rw [List.getD_eq_getElem?_getD, List.getElem?_eq_none (by simp [kindW]; omega)]; rfl
theorem hexT_dg (k : Nat) (h : k < 16) : dgC (hexT.getD k 0) = true := by
  rcases (by omega : k = 0 ∨ k = 1 ∨ k = 2 ∨ k = 3 ∨ k = 4 ∨ k = 5 ∨ k = 6 ∨ k = 7 ∨ k = 8 ∨ k = 9 ∨ k = 10 ∨ k = 11 ∨ k = 12 ∨ k = 13 ∨ k = 14 ∨ k = 15) with rfl | rfl | rfl | rfl | rfl | rfl | rfl | rfl | rfl | rfl | rfl | rfl | rfl | rfl | rfl | rfl <;> decide
theorem digest_dg (s : List UInt8) : dgB (digestL s) = true := by
  unfold dgB digestL
  rw [decide_eq_true (hex16_len _), Bool.true_and]
  unfold hex16
  rw [List.all_map, List.all_eq_true]
  intro j _
  exact hexT_dg _ (by omega)
theorem dgB_bare {s : List UInt8} (h : dgB s = true) : bareL s = true := by
  unfold dgB at h
  simp only [Bool.and_eq_true] at h
  refine all_imp h.2 fun c hc => ?_
  have : dgC c = true → c ≠ 13 ∧ c ≠ 10 := by
    refine u8_all (P := fun c => dgC c = true → c ≠ 13 ∧ c ≠ 10) ?_ c
    decide +kernel
  simp [this hc]
theorem getD_bare {l : List (List UInt8)} (h : ∀ w ∈ l, bareL w = true) (k : Nat) : bareL (l.getD k []) = true := by
  rw [List.getD_eq_getElem?_getD]
  by_cases hk : k < l.length
  · rw [List.getElem?_eq_getElem hk]; exact h _ (List.getElem_mem hk)
  · rw [List.getElem?_eq_none (by omega)]; rfl
theorem itoa_bare {n : Int} (h : 0 ≤ n) : bareL (Lib.itoa n) = true := by
  obtain ⟨k, rfl⟩ : ∃ k : Nat, n = k := ⟨n.toNat, by omega⟩
  rw [itoa_nat]
  exact dgt_bare (dec_dig k).1
theorem padded_bare {n k : Int} (h : 0 ≤ n) : bareL (paddedL n k) = true := by
  unfold paddedL
  rw [bare_app, itoa_bare h, Bool.and_true]
  generalize (max 0 (k - (Lib.itoa n).length)).toNat = m
  unfold bareL
  rw [List.all_eq_true]
  intro x hx
  have : x = 48 := by
    induction m with
    | zero => simp [Lib.repeatL] at hx
    | succ m ih =>
      simp only [Lib.repeatL, List.cons_append, List.nil_append, List.mem_cons] at hx
      rcases hx with hx | hx
      · exact hx
      · exact ih hx
  subst this; rfl
theorem date_bare {n : Int} (h0 : 0 ≤ n) (h1 : n ≤ 253402300799) : bareL (dateTextL n) = true := by
  obtain ⟨_, _, _, _, _, _, _, _, _, y1, _, d1, _⟩ := date_fields h0 h1
  unfold dateTextL
  simp only [bare_app, getD_bare (l := wdN) (by decide), getD_bare (l := mnN) (by decide), padded_bare (n := n / 86400 - daysI (yearI (n / 86400)) (monthI (n / 86400)) + 1) (by omega), padded_bare (n := yearI (n / 86400)) (by omega), padded_bare (n := n % 86400 / 3600) (by omega), padded_bare (n := n % 86400 / 60 % 60) (by omega), padded_bare (n := n % 86400 % 60) (by omega)]
  rfl
theorem rec_own {r : Rcd} (h : checkRecL r = 0) : ownL r.hd = false := by
  obtain ⟨h1, h2, h3, h4, h5, h6, h7, h8, h9, h10⟩ := rec_ok h
  have a1 : ¬ (r.ki < 1 ∨ 5 < r.ki) := by omega
  have a2 : nmR r := ⟨h3, h4⟩
  by_cases a3 : clR r
  · have := cr12 a1 a2 a3; omega
  · have := crR a1 a2 a3 ⟨h5, h6⟩ h7 (by omega) h9
    rw [this] at h
    cases ho : ownL r.hd with
    | false => rfl
    | true => rw [ho, if_pos rfl] at h; omega
theorem rec_heads {r : Rcd} (h : checkRecL r = 0) : ∀ x ∈ r.hd, tokL x.name = true ∧ valueL x.value = true ∧ x.name ≠ wLng := by
  intro x hx
  obtain ⟨h1, h2, h3, h4, h5, h6, h7, h8, h9, h10⟩ := rec_ok h
  have hm := heads_mem h9 x hx
  refine ⟨hm.1, hm.2, fun e => ?_⟩
  have := rec_own h
  unfold ownL at this
  rw [List.any_eq_false] at this
  have := this x hx
  rw [e] at this
  exact this (by decide)
theorem kind_back {k : Int} (h1 : 1 ≤ k) (h2 : k ≤ 5) : kindI (kindW.getD (k - 1).toNat []) = k := by
  rcases (by omega : k = 1 ∨ k = 2 ∨ k = 3 ∨ k = 4 ∨ k = 5) with rfl | rfl | rfl | rfl | rfl <;> decide
theorem len_back {n : Nat} (h : n ≤ 999999999) : digL (Lib.itoa n) 9 = true ∧ natOf (Lib.itoa n) = n ∧ bareL (Lib.itoa n) = true := by
  refine ⟨?_, ?_, itoa_bare (by omega)⟩
  · rw [itoa_nat]
    obtain ⟨d1, d2, d3, d4, _⟩ := dec_dig n
    have d5 := dec_len 8 n (by omega)
    unfold digL
    rw [d1, decide_eq_true d3, decide_eq_true (show ((Lib.decDigits n).length : Int) ≤ 9 by omega)]
    simp only [Bool.and_self, Bool.true_and, Bool.or_eq_true, decide_eq_true_eq, beq_iff_eq]
    by_cases e : (Lib.decDigits n).getD 0 0 = 48
    · right
      have hl := d4.resolve_left (fun x => x e)
      match hq : Lib.decDigits n, hl with
      | [c], _ => rw [hq] at e; simpa using e
    · left; exact e
  · rw [itoa_nat]; exact (dec_dig n).2.1
theorem stepR {B w v rest : List UInt8} {i : Nat} {acc : List UInt8 → Bool} (hd : B.drop i = lnB2 w v ++ rest) (hw : bareL w = true) (hv : bareL v = true) (ha : acc v = true) :
    lnR B i w acc = true ∧ lnA B i w acc = i + (lnB2 w v).length ∧ B.drop (i + (lnB2 w v).length) = rest ∧ lineOk B i w = true ∧ lineV B i w = v := by
  obtain ⟨h1, h2, h3, h4⟩ := line_at hd hw hv
  have hr : lnR B i w acc = true := by unfold lnR; rw [h1, h2, ha]; rfl
  exact ⟨hr, by unfold lnA; rw [if_pos hr, h3], h4, h1, h2⟩
theorem whole_at {B w rest : List UInt8} {i : Nat} (hd : B.drop i = w ++ [13, 10] ++ rest) (hw : bareL w = true) : wholeB B i w = true ∧ wholeA B i w = i + w.length + 2 ∧ B.drop (i + w.length + 2) = rest := by
  have e : lineS (B.drop i) = some w := by rw [hd]; exact lineS_app w rest hw
  have hb : wholeB B i w = true := by unfold wholeB lnB lnS; rw [e]; simp
  refine ⟨hb, ?_, ?_⟩
  · unfold wholeA
    rw [if_pos hb]
    unfold lnN
    rw [e]
  · rw [Nat.add_assoc, ← List.drop_drop, hd, show w.length + 2 = (w ++ [13, 10]).length by simp, List.drop_left]
theorem linesC_back {B q : List UInt8} {r : Rcd} (h : checkRecL r = 0) (pl : Nat) (ki ti ln : Int) (id ow ke dg : List UInt8) (hp : pl ≤ B.length)
    (hB : B.drop pl = lnB2 wKind (kindW.getD (r.ki - 1).toNat []) ++ (lnB2 wDate (dateTextL r.ti) ++ (lnB2 wKey r.ke ++ (headsB r.hd ++ (lnB2 wLng (Lib.itoa r.bd.length) ++ (lnB2 wDig (digestL r.bd) ++ ([] ++ [13, 10] ++ q))))))) :
    ∃ p : Nat, linesC B B.length ⟨pl, ki, id, ow, ti, ke, ln, dg⟩ = (true, ⟨p, r.ki, id, ow, r.ti, r.ke, r.bd.length, digestL r.bd⟩, r.hd) ∧ B.drop p = q ∧ p + q.length = B.length := by
  obtain ⟨k1, k2, k3, k4, k5, k6, k7, k8, k9, k10⟩ := rec_ok h
  obtain ⟨a1, a2, a3, a4, a5⟩ := stepR (acc := kindB) hB (by decide) (kindW_bare _) (by unfold kindB; rw [kind_back k1 k2]; exact decide_eq_true (by omega))
  obtain ⟨b1, b2, b3, b4, b5⟩ := stepR (acc := rdB) a3 (by decide) (date_bare k5 k6) (rdB_date k5 k6)
  obtain ⟨c1, c2, c3, c4, c5⟩ := stepR (acc := fun _ => true) b3 (by decide) (tg_bare k7) rfl
  obtain ⟨l1, l2, l3⟩ := len_back (n := r.bd.length) (by omega)
  have hlen := congrArg List.length hB
  have hge := headsB_ge r.hd
  simp only [List.length_append, List.length_drop] at hlen
  have d := hds_back r.hd (B.length + 1) _ [] (rec_heads h) (by omega) c3
  have d3 : B.drop (pl + (lnB2 wKind (kindW.getD (r.ki - 1).toNat [])).length + (lnB2 wDate (dateTextL r.ti)).length + (lnB2 wKey r.ke).length + (headsB r.hd).length) = (lnB2 wLng (Lib.itoa r.bd.length) ++ (lnB2 wDig (digestL r.bd) ++ ([] ++ [13, 10] ++ q))) := by rw [← List.drop_drop, c3, List.drop_left]
  obtain ⟨e1, e2, e3, e4, e5⟩ := stepR (acc := fun v => digL v 9) d3 (by decide) l3 l1
  obtain ⟨f1, f2, f3, f4, f5⟩ := stepR (acc := dgB) e3 (by decide) (dgB_bare (digest_dg r.bd)) (digest_dg r.bd)
  obtain ⟨g1, g2, g3⟩ := whole_at f3 rfl
  refine ⟨_, ?_, g3, ?_⟩
  · unfold linesC linesD
    dsimp only
    rw [if_neg (by rw [a1]; simp), a2, if_neg (by rw [b1]; simp), b2, if_neg (by rw [c1]; simp), c2, d]
    dsimp only
    rw [if_neg (by simp), if_neg (by rw [e1]; simp), e2, if_neg (by rw [f1]; simp), f2, g1, g2]
    rw [lnF_ok a4, lnF_ok b4, lnF_ok c4, lnF_ok e4, lnF_ok f4, a5, b5, c5, e5, f5, if_pos l1, l2, kind_back k1 k2]
    unfold rdV
    rw [if_pos (rdB_date k5 k6), momF_date k5 k6]
    simp
  · simp only [List.length_nil, List.length_cons] at hlen ⊢
    omega
theorem rec_split (r : Rcd) (q : List UInt8) : recB r ++ q = wKept0 ++ [13, 10] ++ (lnB2 wId r.id ++ ((if r.ow = [] then [] else lnB2 wOf r.ow) ++ (lnB2 wKind (kindW.getD (r.ki - 1).toNat []) ++ (lnB2 wDate (dateTextL r.ti) ++ (lnB2 wKey r.ke ++ (headsB r.hd ++ (lnB2 wLng (Lib.itoa r.bd.length) ++ (lnB2 wDig (digestL r.bd) ++ ([] ++ [13, 10] ++ (r.bd ++ crlf2 ++ q)))))))))) := by
  unfold recB recP recQ
  simp [wKept, wKept0, crlf2, wId, wOf, wKind, wDate, wKey, wLng, wDig]
/-- the reader over the lines of a record -/
theorem lines_back {B q : List UInt8} {r : Rcd} {a : Nat} (h : checkRecL r = 0) (ha : a ≤ B.length) (hB : B.drop a = recB r ++ q) : ∃ pl : Nat, linesL B B.length (rp0 a) = (true, ⟨pl, r.ki, r.id, r.ow, r.ti, r.ke, r.bd.length, digestL r.bd⟩, r.hd) ∧ B.drop pl = r.bd ++ crlf2 ++ q ∧ pl + (r.bd ++ crlf2 ++ q).length = B.length := by
  obtain ⟨k1, k2, k3, k4, k5, k6, k7, k8, k9, k10⟩ := rec_ok h
  have hlen := congrArg List.length hB
  rw [rec_split] at hB
  obtain ⟨a1, a2, a3⟩ := whole_at hB (by decide)
  obtain ⟨b1, b2, b3, b4, b5⟩ := stepR (acc := fun _ => true) a3 (by decide) (nm_bare k3) rfl
  have hp2 : a + wKept0.length + 2 + (lnB2 wId r.id).length ≤ B.length := by
    have := congrArg List.length hB
    simp only [List.length_append, List.length_drop, List.length_cons, List.length_nil] at this
    omega
  unfold linesL rp0
  dsimp only
  by_cases ho : r.ow = []
  · rw [if_pos ho, List.nil_append] at b3
    have hL : isL B (a + wKept0.length + 2 + (lnB2 wId r.id).length) wOf = false := by
      refine isL_not 0 0 (by simp [wOf]) ?_
      rw [b3]
      simp [lnB2, wKind, wOf]
    obtain ⟨p, c1, c2, c3⟩ := linesC_back h (a + wKept0.length + 2 + (lnB2 wId r.id).length) 0 0 0 r.id [] [] [] hp2 b3
    refine ⟨p, ?_, c2, c3⟩
    rw [if_neg (by rw [a1]; simp), a2, if_neg (by rw [b1]; simp), b2, if_neg (by rw [hL]; simp), lnF_ok b4, b5, c1, ho]
  · rw [if_neg ho] at b3
    obtain ⟨d1, d2, d3, d4, d5⟩ := stepR (acc := ofB) b3 (by decide) (nm_bare (k4.resolve_left ho)) (by unfold ofB; simpa using ho)
    have hL := isL_at b3
    have hp3 : a + wKept0.length + 2 + (lnB2 wId r.id).length + (lnB2 wOf r.ow).length ≤ B.length := by
      have := congrArg List.length b3
      simp only [List.length_append, List.length_drop] at this
      have : 2 ≤ (lnB2 wKind (kindW.getD (r.ki - 1).toNat [])).length := by
        unfold lnB2
        simp only [List.length_append, List.length_cons, List.length_nil]
        omega
      omega
    obtain ⟨p, c1, c2, c3⟩ := linesC_back h (a + wKept0.length + 2 + (lnB2 wId r.id).length + (lnB2 wOf r.ow).length) 0 0 0 r.id r.ow [] [] hp3 d3
    refine ⟨p, ?_, c2, c3⟩
    rw [if_neg (by rw [a1]; simp), a2, if_neg (by rw [b1]; simp), b2, if_pos hL, if_neg (by rw [d1]; simp), d2, lnF_ok b4, b5, lnF_ok d4, d5, c1]
/-- a record is read as it was written -/
theorem rd_back {B q : List UInt8} {r : Rcd} {a : Nat} (h : checkRecL r = 0) (ha : a ≤ B.length) (hB : B.drop a = recB r ++ q) : rdOne B a = (r, ((a + (recB r).length : Nat) : Int), 0) := by
  obtain ⟨pl, e, e2, e3⟩ := lines_back h ha hB
  have hlen := congrArg List.length hB
  simp only [List.length_append, List.length_drop] at hlen e3
  have h4 : crlf2.length = 4 := rfl
  have hb : ((B.drop pl).take r.bd.length) = r.bd := by rw [e2, List.append_assoc, List.take_left]
  have hc : (B.drop (pl + r.bd.length)).take 4 = crlf2 := by
    rw [← List.drop_drop, e2, List.append_assoc, List.drop_left]
    exact List.take_left (l₁ := crlf2)
  unfold rdOne
  rw [e]
  dsimp only
  rw [if_neg (by simp), if_neg (by omega), show (((pl : Nat) : Int) + (r.bd.length : Nat)).toNat = pl + r.bd.length by omega, hc, if_neg (by simp), Int.toNat_natCast, hb, if_neg (by simp), if_neg (by simpa using h)]
  refine Prod.ext rfl (Prod.ext ?_ rfl)
  show (pl : Int) + (r.bd.length : Nat) + 4 = ((a + (recB r).length : Nat) : Int)
  omega

theorem shLst {s : Sh} {k m : Nat} {v : V} (h : Sh.has (.lst s k) m v) : Sh.has (.list s) m v ∧ ∀ n f, v = .sl n f → n * k ≤ reachBytes := by
  obtain ⟨l, ms, rfl, h1, h2, ⟨h3, h4⟩, h5⟩ := h
  exact ⟨⟨l, ms, rfl, h1, h2, h3, h5⟩, fun n f e => by cases e; exact h4⟩
def ckLawVR : Ck
  | [.sl n f, .int .i64 m] => some (isLv cRec n f ∧ n * 112 ≤ 140737488355328 ∧ recsOk (lsOf cRec n f), .bool true)
  | _ => none
theorem conLawVR : Con pg 3 ckLawVR := by
  have hct := (ctA_ok conRecBytes (ctA_ok conLives (ctA_ok conKept (ctA_ok conRestored (ctA_ok conBEqual (ctA_ok conReadOne (ctA_ok conSame6 (ctN_ok _))))))))
  intro args q r h hq
  unfold ckLawVR at h
  split at h
  · cases h
    rename_i n f m
    refine pcall_args (args' := [.sl (lsOf cRec n f).length (lsF cRec (lsOf cRec n f)), .int .i64 m]) ⟨hq.1, VLe.refl _, trivial⟩ ?_
    obtain ⟨-, hn, hl⟩ := hq
    rw [← lsOf_len (c := cRec) n f] at hn
    generalize lsOf cRec n f = l at hn hl ⊢
    refine w3 (fun d => decide (d = 20009)) [] rfl hct rfl rfl ?_
    push_cast (config := { maxSteps := 10000000 })
    have hBl : (l.map recR).length = l.length := by rw [List.length_map]
    have hBg : ∀ i, i < l.length → (l.map recR).getD i [] = recR (l.getD i noRec) := fun i hi => by
      rw [List.getD_eq_getElem?_getD, List.getElem?_map, List.getElem?_eq_getElem hi, List.getD_eq_getElem?_getD, List.getElem?_eq_getElem hi]; rfl
    generalize l.map recR = B at hBl hBg
    refine SeqW.cut ⟨hct, fol⟩ (by kernel_rfl) (by kernel_rfl) [.frz 8000] (fun _ : Unit => [(0, .sl l.length (lsF cRec l)), (1, .int .i64 m), (5, .sl B.length (lsF cBy B))]) (fun _ => []) (fun _ => ∀ j, j < l.length → checkRecL (l.getD j noRec) = 0) ?_ fun _ hall => ?_
    · push_cast (config := { maxSteps := 10000000 })
      refine LoopW.adj ⟨hct, fol⟩ (by kernel_rfl) [.nv 5 8000 1 (lsF cBy [])] (fun i : Nat => [(0, .sl l.length (lsF cRec l)), (1, .int .i64 m), (5, .vec 8000 i), (6, .int .i64 i)]) (fun i => [(8000, .vec 1 i (lsF cBy B))]) (fun i => i ≤ l.length ∧ ∀ j, j < i → checkRecL (l.getD j noRec) = 0) (fun i => l.length - i) 0 ?_ fun i hi => ?_
      · push_cast (config := { maxSteps := 10000000 })
        exact Nat.zero_le _
      · obtain ⟨i1, i2⟩ : i ≤ l.length ∧ ∀ j, j < i → checkRecL (l.getD j noRec) = 0 := hi
        push_cast (config := { maxSteps := 10000000 })
        refine ⟨fun h => ⟨h, recsOk_at hl h, fun h2 => by unfold recR; rw [if_neg h2]; rfl, fun h2 => ⟨⟨by omega, by omega⟩, ⟨by omega, by omega⟩, i + 1, ⟨by omega, fun j hj => ?_⟩, by omega, ⟨rfl, by omega⟩, rfl, fun j hj => ?_⟩⟩, fun h => ?_⟩
        · by_cases e : j = i
          · subst e; exact h2
          · exact i2 j (by omega)
        · unfold appF
          by_cases e : j < i
          · rw [decide_eq_true e]; rfl
          · obtain rfl : j = i := by omega
            rw [decide_eq_false e, Nat.sub_self, cond_false, hBg j h]; rfl
        · obtain rfl : i = l.length := by omega
          exact ⟨(), i2, hBl.symm⟩
    push_cast (config := { maxSteps := 10000000 })
    refine ⟨fun h => by unfold keptR; rw [if_neg h]; rfl, fun he => ?_⟩
    have eR : keptR B m = (keptN B m B.length).1 := by unfold keptR; rw [if_pos he]
    obtain ⟨h300, hsz, -, -⟩ := keptE_0 he
    have hvl := (keptN_len B m B.length).1
    rw [eR]
    have hok : ∀ i, i < B.length → VerOk (keptN B m B.length).1 i := fun i hi => kept_ok hsz hi
    have hch : ∀ i, i < B.length → chV (keptN B m B.length).1 i = B.getD i [] := fun i hi => kept_ch rfl i hi
    generalize (keptN B m B.length).1 = v at *
    refine LoopW.adj ⟨hct, fol⟩ (by kernel_rfl) [] (fun i : Nat => [(0, .sl l.length (lsF cRec l)), (5, .sl B.length (lsF cBy B)), (9, .sl v.length (lsF cVer v)), (11, .int .i64 i)]) (fun _ => []) (fun i => i ≤ l.length) (fun i => l.length - i) 0 ?_ fun i hi => ?_
    · push_cast (config := { maxSteps := 10000000 })
      exact Nat.zero_le _
    · push_cast (config := { maxSteps := 10000000 })
      refine ⟨fun h => ?_, fun h => by omega⟩
      have hr := hall i h
      have hb := hBg i h
      have hbs : (B.getD i []).length ≤ 3000 := hsz _ (by rw [List.getD_eq_getElem?_getD, List.getElem?_eq_getElem (by omega)]; exact List.getElem_mem _)
      have hR : recR (l.getD i noRec) = recB (l.getD i noRec) := by unfold recR; rw [if_pos hr]
      rw [hR] at hb
      rw [hch i (by omega)]
      have hrd : rdOneR (B.getD i []) 0 = (l.getD i noRec, ((B.getD i []).length : Int), 0) := by
        unfold rdOneR
        rw [if_neg (by omega)]
        have := rd_back (q := []) (a := 0) hr (Nat.zero_le (B.getD i []).length) (by rw [hb]; simp)
        rw [show (0 : Int).toNat = 0 from rfl, this, hb, Nat.zero_add]
      rw [hrd]
      have h30 := (rec_ok hr).2.2.2.2.2.2.2.1
      exact ⟨⟨by omega, by omega, hok i (by omega)⟩, by omega, fun x => x rfl, fun _ => ⟨by omega, fun _ => ⟨⟨rfl, rfl⟩, h⟩, fun _ => ⟨⟨rfl, rfl⟩, by show (l.getD i noRec).hd.length ≤ _; omega⟩, fun x => by rcases x with (x | x) | x <;> exact x rfl, fun _ => ⟨⟨by omega, by omega⟩, i + 1, by omega, by omega, by omega⟩⟩⟩
  · cases h
attribute [push_cast] ckLawVR
theorem allLawVR {H : Type} (ds : List (DataW H)) (hh : hasD [.lst (.tup [.int .i64, .str, .str, .int .i64, .str, .list (.tup [.str, .str]), .list (.int .u8)]) 112, .int .i64] ds) : PCall pg 3 (ds.map toV) (.bool true) := by
  obtain ⟨d1, d2, rfl, a, b⟩ := hasD2 hh
  obtain ⟨a1, a2⟩ := shLst a
  obtain ⟨n, f, e1, i1, b1, k1⟩ := shRecs a1
  obtain ⟨k, e2, c2⟩ := shInt b
  have h3 := a2 n f e1
  simp only [List.map_cons, List.map_nil, e1, e2]
  exact conLawVR _ _ _ rfl ⟨i1, Nat.le_trans h3 reach_le, k1⟩

end Go.Abs
