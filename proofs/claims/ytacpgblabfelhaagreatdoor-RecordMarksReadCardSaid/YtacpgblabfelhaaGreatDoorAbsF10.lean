/- what functions of this program compute: contracts, each a function's own -/
import Derived.Test.YtacpgblabfelhaaGreatDoorAbsK2
import Derived.Test.YtacpgblabfelhaaGreatDoorAbsFacts
import Derived.Test.YtacpgblabfelhaaGreatDoorAbsF9
import Derived.Test.YtacpgblabfelhaaGreatDoorAbsShelf
import Derived.Lib.SlTrimSet
import Derived.Lib.Atoi
import Derived.Lib.Itoa
import Derived.Lib.ItoaNum
import Derived.Lib.AtoiErrMem
import Derived.Lib.ItoaLen
import Derived.Lib.SplitLaws
import Derived.Shelf.Bytes.SlIndexWhole
import Derived.Lib.Index
import Derived.Lib.IndexBytes
import Derived.Shelf.Spec.SlicesGrow
namespace Go.Abs
open Go Go.Proofs
set_option maxHeartbeats 4000000
set_option maxRecDepth 100000
set_option linter.unusedVariables false
set_option linter.unusedSimpArgs false
/- a record is read as it was written, and what was read is written so -/
theorem line_at {B w v rest : List UInt8} {i : Nat} (h : B.drop i = lnB2 w v ++ rest) (hw : bareL w = true) (hv : bareL v = true) : lineOk B i w = true ∧ lineV B i w = v ∧ lnN B i = i + (lnB2 w v).length ∧ B.drop (i + (lnB2 w v).length) = rest := by
  have hb : bareL (w ++ [58, 32] ++ v) = true := by rw [bare_app, bare_app, hw, hv]; rfl
  have e : lineS (B.drop i) = some (w ++ [58, 32] ++ v) := by
    rw [h]
    exact lineS_app _ rest hb
  have hd : B.drop (i + (lnB2 w v).length) = rest := by rw [← List.drop_drop, h, List.drop_left]
  unfold lineOk lineV lnB lnS lnN
  rw [e]
  refine ⟨?_, ?_, ?_, hd⟩
  · rw [Option.isSome_some, Bool.true_and]
    exact hasPre_iff.2 ⟨v, by simp⟩
  · simp
  · simp [lnB2]; omega
theorem line_inv {B w : List UInt8} {i : Nat} (h : lineOk B i w = true) : B.drop i = lnB2 w (lineV B i w) ++ B.drop (lnN B i) := by
  unfold lineOk at h
  simp only [Bool.and_eq_true] at h
  obtain ⟨h1, h2⟩ := h
  unfold lnB at h1
  cases e : lineS (B.drop i) with
  | none => rw [e] at h1; cases h1
  | some s =>
    have hi := lineS_inv e
    unfold lineV lnS lnN
    unfold lnS at h2
    rw [e] at h2 ⊢
    simp only [Option.getD_some] at h2 ⊢
    obtain ⟨r, hr⟩ := hasPre_iff.1 h2
    rw [List.drop_drop] at hi
    rw [hi]
    have e1 : s.drop (w.length + 2) = r := by
      rw [hr, show w.length + 2 = (w ++ [58, 32]).length by simp, List.drop_left]
    rw [e1, show i + s.length + 2 = i + (s.length + 2) by omega]
    unfold lnB2
    rw [hr]
theorem isL_at {B rest : List UInt8} {i : Nat} {w v : List UInt8} (h : B.drop i = lnB2 w v ++ rest) : isL B i w = true := by
  unfold isL
  rw [h]
  refine decide_eq_true ?_
  unfold lnB2
  rw [show w ++ [58, 32] ++ v ++ [13, 10] ++ rest = (w ++ [58, 32]) ++ (v ++ [13, 10] ++ rest) by simp, show w.length + 2 = (w ++ [58, 32]).length by simp, List.take_left]
theorem isL_not {B : List UInt8} {i : Nat} {w : List UInt8} (c : UInt8) (k : Nat) (hk : k < w.length + 2) (h : (B.drop i).getD k 0 ≠ (w ++ [58, 32]).getD k 0) : isL B i w = false := by
  unfold isL
  refine decide_eq_false fun x => h ?_
  rw [← x, List.getD_eq_getElem?_getD, List.getD_eq_getElem?_getD, List.getElem?_take_of_lt hk]
/-- a head line is no line of the length -/
theorem isL_hd {B rest n v : List UInt8} {i : Nat} (h : B.drop i = n ++ [58, 32] ++ v ++ [13, 10] ++ rest) (hn : ∀ x ∈ n, x ≠ 58) {w : List UInt8} (hw : ∀ x ∈ w, x ≠ 58) (hne : n ≠ w) : isL B i w = false := by
  unfold isL
  refine decide_eq_false fun x => hne ?_
  have h1 : Lib.indexByte (n ++ 58 :: (32 :: v ++ [13, 10] ++ rest)) 58 = n.length := by
    have : ∀ (n r : List UInt8), (∀ x ∈ n, x ≠ 58) → Lib.indexByte (n ++ 58 :: r) 58 = n.length := by
      intro n r hn
      induction n with
      | nil => simp [Lib.indexByte]
      | cons a t ih =>
        have ha := hn a (by simp)
        have := ih fun x hx => hn x (by simp [hx])
        simp only [List.cons_append, Lib.indexByte]
        rw [if_neg (by simpa using ha), this, if_neg (by first | (simp; done) | (simp; omega))]
        simp
    exact this _ _ hn
  have e1 : B.drop i = (w ++ [58, 32]) ++ (B.drop i).drop (w.length + 2) := by
    conv => lhs; rw [← List.take_append_drop (w.length + 2) (B.drop i), x]
  have h2 : Lib.indexByte (w ++ 58 :: (32 :: (B.drop i).drop (w.length + 2))) 58 = w.length := by
    have : ∀ (n r : List UInt8), (∀ x ∈ n, x ≠ 58) → Lib.indexByte (n ++ 58 :: r) 58 = n.length := by
      intro n r hn
      induction n with
      | nil => simp [Lib.indexByte]
      | cons a t ih =>
        have ha := hn a (by simp)
        have := ih fun x hx => hn x (by simp [hx])
        simp only [List.cons_append, Lib.indexByte]
        rw [if_neg (by simpa using ha), this, if_neg (by first | (simp; done) | (simp; omega))]
        simp
    exact this _ _ hw
  have e2 : n ++ 58 :: (32 :: v ++ [13, 10] ++ rest) = w ++ 58 :: (32 :: (B.drop i).drop (w.length + 2)) := by
    have ea : n ++ 58 :: (32 :: v ++ [13, 10] ++ rest) = B.drop i := by rw [h]; simp
    rw [ea]
    conv => lhs; rw [e1]
    simp
  rw [e2, h2] at h1
  have hl : n.length = w.length := by omega
  exact (List.append_inj e2 hl).1
theorem hds_back {B rest v : List UInt8} : ∀ (hds : List Hd) (k i : Nat) (out : List Hd), (∀ h ∈ hds, tokL h.name = true ∧ valueL h.value = true ∧ h.name ≠ wLng) → hds.length < k → B.drop i = headsB hds ++ (lnB2 wLng v ++ rest) → hdsR B k i out = (true, i + (headsB hds).length, out ++ hds)
  | [], k + 1, i, out, _, _, h => by
    have hl : isL B i [108, 101, 110, 103, 116, 104] = true := isL_at (w := wLng) (v := v) (rest := rest) (by rw [h]; simp [headsB])
    rw [hdsR, if_pos hl]
    simp [headsB]
  | x :: t, k + 1, i, out, hok, hk, h => by
    obtain ⟨ht, hv, hne'⟩ := hok x (by simp)
    simp only [tokL, valueL, Bool.and_eq_true, decide_eq_true_eq] at ht hv
    have hbare : bareL (x.name ++ [58, 32] ++ x.value) = true := by
      rw [bare_app, bare_app]
      have b1 : bareL x.name = true := all_imp ht.2 fun c hc => by have := tok_plain c hc; simp [this.1, this.2.1]
      have b2 : bareL x.value = true := all_imp hv.2 fun c hc => by have := val_plain c hc; simp [this.1, this.2]
      rw [b1, b2]; rfl
    have hn : ∀ y ∈ x.name, y ≠ 58 := fun y hy => (tok_plain y (List.all_eq_true.1 ht.2 y hy)).2.2.2
    have hne : x.name ≠ [] := fun e => by rw [e] at ht; simp at ht
    have h' : B.drop i = (x.name ++ [58, 32] ++ x.value) ++ [13, 10] ++ (headsB t ++ (lnB2 wLng v ++ rest)) := by rw [h]; simp [headsB, headB]
    have e : lineS (B.drop i) = some (x.name ++ [58, 32] ++ x.value) := by rw [h']; exact lineS_app _ _ hbare
    have hh := hd_app hn hne
    have e1 : lnB B i = true := by unfold lnB; rw [e]; rfl
    have e2 : lnS B i = x.name ++ [58, 32] ++ x.value := by unfold lnS; rw [e]; rfl
    have e3 : lnN B i = i + (headB x).length := by unfold lnN; rw [e]; simp [headB]; omega
    have hd : B.drop (i + (headB x).length) = headsB t ++ (lnB2 wLng v ++ rest) := by
      rw [← List.drop_drop, h, show headsB (x :: t) ++ (lnB2 wLng v ++ rest) = headB x ++ (headsB t ++ (lnB2 wLng v ++ rest)) by simp [headsB], List.drop_left]
    have hL : isL B i [108, 101, 110, 103, 116, 104] = false := isL_hd (n := x.name) (v := x.value) (rest := headsB t ++ (lnB2 wLng v ++ rest)) (by rw [h']) hn (by decide) hne'
    rw [hdsR, if_neg (by rw [hL]; simp), e1, e2, hh.1, if_pos (show (true && true) = true from rfl), hh.2, e3]
    have ih := hds_back t k (i + (headB x).length) (out ++ [x]) (fun y hy => hok y (by simp [hy])) (by simp at hk; omega) hd
    rw [ih]
    simp [headsB]; omega
theorem hds_inv {B : List UInt8} : ∀ (k i : Nat) (out : List Hd), (hdsR B k i out).1 = true → ∃ hs, (hdsR B k i out).2.2 = out ++ hs ∧ B.drop i = headsB hs ++ B.drop (hdsR B k i out).2.1 ∧ isL B (hdsR B k i out).2.1 wLng = true
  | 0, i, out, h => by simp [hdsR] at h
  | k + 1, i, out, h => by
    rw [hdsR] at h ⊢
    by_cases hL : isL B i [108, 101, 110, 103, 116, 104] = true
    · rw [if_pos hL]
      exact ⟨[], by simp, by simp [headsB], hL⟩
    · rw [if_neg hL] at h ⊢
      by_cases g : (lnB B i && hdB (lnS B i)) = true
      · rw [if_pos g] at h ⊢
        obtain ⟨hs, a1, a2, a3⟩ := hds_inv k _ _ h
        refine ⟨hdV (lnS B i) :: hs, by rw [a1]; simp, ?_, a3⟩
        clear a1 a3 h
        generalize (hdsR B k (lnN B i) (out ++ [hdV (lnS B i)])).2.1 = J at a2 ⊢
        simp only [Bool.and_eq_true] at g
        have g1 := g.1
        unfold lnB at g1
        cases e : lineS (B.drop i) with
        | none => rw [e] at g1; cases g1
        | some s =>
          have hi := lineS_inv e
          have es : lnS B i = s := by unfold lnS; rw [e]; rfl
          have en : lnN B i = i + (s.length + 2) := by unfold lnN; rw [e]; simp; omega
          rw [List.drop_drop, ← en, a2] at hi
          rw [hi]
          have := hd_inv g.2
          rw [es] at this
          rw [es]
          have e3 : headsB (hdV s :: hs) = ((hdV s).name ++ [58, 32] ++ (hdV s).value) ++ [13, 10] ++ headsB hs := by simp [headsB, headB]
          rw [e3, ← this]
          simp
      · rw [if_neg g] at h; cases h
theorem nm_bare {s : List UInt8} (h : nameL s = true) : bareL s = true := by
  unfold nameL at h
  simp only [Bool.and_eq_true] at h
  refine all_imp h.2 fun c hc => ?_
  have : nmB c = true → c ≠ 13 ∧ c ≠ 10 := by
    refine u8_all (P := fun c => nmB c = true → c ≠ 13 ∧ c ≠ 10) ?_ c
    decide +kernel
  simp [this hc]
theorem tg_bare {s : List UInt8} (h : targetL s = true) : bareL s = true := by
  unfold targetL at h
  simp only [Bool.and_eq_true] at h
  exact all_imp h.2 fun c hc => by have := tg_plain c hc; simp [this.1, this.2.1]
theorem dgt_bare {s : List UInt8} (h : s.all isDg = true) : bareL s = true := by
  refine all_imp h fun c hc => ?_
  have : isDg c = true → c ≠ 13 ∧ c ≠ 10 := by
    refine u8_all (P := fun c => isDg c = true → c ≠ 13 ∧ c ≠ 10) ?_ c
    decide +kernel
  simp [this hc]
theorem kindW_bare (k : Nat) : bareL (kindW.getD k []) = true := by
  by_cases h : k < 5
  · rcases (by omega : k = 0 ∨ k = 1 ∨ k = 2 ∨ k = 3 ∨ k = 4) with rfl | rfl | rfl | rfl | rfl <;> decide
  · rw [List.getD_eq_getElem?_getD, List.getElem?_eq_none (by simp [kindW]; omega)]; rfl
theorem hexT_dg (k : Nat) (h : k < 16) : dgC (hexT.getD k 0) = true := by
  rcases (by omega : k = 0 ∨ k = 1 ∨ k = 2 ∨ k = 3 ∨ k = 4 ∨ k = 5 ∨ k = 6 ∨ k = 7 ∨ k = 8 ∨ k = 9 ∨ k = 10 ∨ k = 11 ∨ k = 12 ∨ k = 13 ∨ k = 14 ∨ k = 15) with rfl | rfl | rfl | rfl | rfl | rfl | rfl | rfl | rfl | rfl | rfl | rfl | rfl | rfl | rfl | rfl <;> decide
theorem digest_dg (s : List UInt8) : dgB (digestL s) = true := by
  unfold dgB digestL
  rw [decide_eq_true (hex16_len _), Bool.true_and]
  unfold hex16
  rw [List.all_map, List.all_eq_true]
  intro j _
  exact hexT_dg _ (by omega)
theorem dgB_bare {s : List UInt8} (h : dgB s = true) : bareL s = true := by
  unfold dgB at h
  simp only [Bool.and_eq_true] at h
  refine all_imp h.2 fun c hc => ?_
  have : dgC c = true → c ≠ 13 ∧ c ≠ 10 := by
    refine u8_all (P := fun c => dgC c = true → c ≠ 13 ∧ c ≠ 10) ?_ c
    decide +kernel
  simp [this hc]
theorem getD_bare {l : List (List UInt8)} (h : ∀ w ∈ l, bareL w = true) (k : Nat) : bareL (l.getD k []) = true := by
  rw [List.getD_eq_getElem?_getD]
  by_cases hk : k < l.length
  · rw [List.getElem?_eq_getElem hk]; exact h _ (List.getElem_mem hk)
  · rw [List.getElem?_eq_none (by omega)]; rfl
theorem itoa_bare {n : Int} (h : 0 ≤ n) : bareL (Lib.itoa n) = true := by
  obtain ⟨k, rfl⟩ : ∃ k : Nat, n = k := ⟨n.toNat, by omega⟩
  rw [itoa_nat]
  exact dgt_bare (dec_dig k).1
theorem padded_bare {n k : Int} (h : 0 ≤ n) : bareL (paddedL n k) = true := by
  unfold paddedL
  rw [bare_app, itoa_bare h, Bool.and_true]
  generalize (max 0 (k - (Lib.itoa n).length)).toNat = m
  unfold bareL
  rw [List.all_eq_true]
  intro x hx
  have : x = 48 := by
    induction m with
    | zero => simp [Lib.repeatL] at hx
    | succ m ih =>
      simp only [Lib.repeatL, List.cons_append, List.nil_append, List.mem_cons] at hx
      rcases hx with hx | hx
      · exact hx
      · exact ih hx
  subst this; rfl
theorem date_bare {n : Int} (h0 : 0 ≤ n) (h1 : n ≤ 253402300799) : bareL (dateTextL n) = true := by
  obtain ⟨_, _, _, _, _, _, _, _, _, y1, _, d1, _⟩ := date_fields h0 h1
  unfold dateTextL
  simp only [bare_app, getD_bare (l := wdN) (by decide), getD_bare (l := mnN) (by decide), padded_bare (n := n / 86400 - daysI (yearI (n / 86400)) (monthI (n / 86400)) + 1) (by omega), padded_bare (n := yearI (n / 86400)) (by omega), padded_bare (n := n % 86400 / 3600) (by omega), padded_bare (n := n % 86400 / 60 % 60) (by omega), padded_bare (n := n % 86400 % 60) (by omega)]
  rfl
theorem rec_own {r : Rcd} (h : checkRecL r = 0) : ownL r.hd = false := by
  obtain ⟨h1, h2, h3, h4, h5, h6, h7, h8, h9, h10⟩ := rec_ok h
  have a1 : ¬ (r.ki < 1 ∨ 5 < r.ki) := by omega
  have a2 : nmR r := ⟨h3, h4⟩
  by_cases a3 : clR r
  · have := cr12 a1 a2 a3; omega
  · have := crR a1 a2 a3 ⟨h5, h6⟩ h7 (by omega) h9
    rw [this] at h
    cases ho : ownL r.hd with
    | false => rfl
    | true => rw [ho, if_pos rfl] at h; omega
theorem rec_heads {r : Rcd} (h : checkRecL r = 0) : ∀ x ∈ r.hd, tokL x.name = true ∧ valueL x.value = true ∧ x.name ≠ wLng := by
  intro x hx
  obtain ⟨h1, h2, h3, h4, h5, h6, h7, h8, h9, h10⟩ := rec_ok h
  have hm := heads_mem h9 x hx
  refine ⟨hm.1, hm.2, fun e => ?_⟩
  have := rec_own h
  unfold ownL at this
  rw [List.any_eq_false] at this
  have := this x hx
  rw [e] at this
  exact this (by decide)
theorem kind_back {k : Int} (h1 : 1 ≤ k) (h2 : k ≤ 5) : kindI (kindW.getD (k - 1).toNat []) = k := by
  rcases (by omega : k = 1 ∨ k = 2 ∨ k = 3 ∨ k = 4 ∨ k = 5) with rfl | rfl | rfl | rfl | rfl <;> decide
theorem len_back {n : Nat} (h : n ≤ 999999999) : digL (Lib.itoa n) 9 = true ∧ natOf (Lib.itoa n) = n ∧ bareL (Lib.itoa n) = true := by
  refine ⟨?_, ?_, itoa_bare (by omega)⟩
  · rw [itoa_nat]
    obtain ⟨d1, d2, d3, d4, _⟩ := dec_dig n
    have d5 := dec_len 8 n (by omega)
    unfold digL
    rw [d1, decide_eq_true d3, decide_eq_true (show ((Lib.decDigits n).length : Int) ≤ 9 by omega)]
    simp only [Bool.and_self, Bool.true_and, Bool.or_eq_true, decide_eq_true_eq, beq_iff_eq]
    by_cases e : (Lib.decDigits n).getD 0 0 = 48
    · right
      have hl := d4.resolve_left (fun x => x e)
      match hq : Lib.decDigits n, hl with
      | [c], _ => rw [hq] at e; simpa using e
    · left; exact e
  · rw [itoa_nat]; exact (dec_dig n).2.1
theorem stepR {B w v rest : List UInt8} {i : Nat} {acc : List UInt8 → Bool} (hd : B.drop i = lnB2 w v ++ rest) (hw : bareL w = true) (hv : bareL v = true) (ha : acc v = true) :
    lnR B i w acc = true ∧ lnA B i w acc = i + (lnB2 w v).length ∧ B.drop (i + (lnB2 w v).length) = rest ∧ lineOk B i w = true ∧ lineV B i w = v := by
  obtain ⟨h1, h2, h3, h4⟩ := line_at hd hw hv
  have hr : lnR B i w acc = true := by unfold lnR; rw [h1, h2, ha]; rfl
  exact ⟨hr, by unfold lnA; rw [if_pos hr, h3], h4, h1, h2⟩
theorem whole_at {B w rest : List UInt8} {i : Nat} (hd : B.drop i = w ++ [13, 10] ++ rest) (hw : bareL w = true) : wholeB B i w = true ∧ wholeA B i w = i + w.length + 2 ∧ B.drop (i + w.length + 2) = rest := by
  have e : lineS (B.drop i) = some w := by rw [hd]; exact lineS_app w rest hw
  have hb : wholeB B i w = true := by unfold wholeB lnB lnS; rw [e]; simp
  refine ⟨hb, ?_, ?_⟩
  · unfold wholeA
    rw [if_pos hb]
    unfold lnN
    rw [e]
  · rw [Nat.add_assoc, ← List.drop_drop, hd, show w.length + 2 = (w ++ [13, 10]).length by simp, List.drop_left]
theorem linesC_back {B q : List UInt8} {r : Rcd} (h : checkRecL r = 0) (pl : Nat) (ki ti ln : Int) (id ow ke dg : List UInt8) (hp : pl ≤ B.length)
    (hB : B.drop pl = lnB2 wKind (kindW.getD (r.ki - 1).toNat []) ++ (lnB2 wDate (dateTextL r.ti) ++ (lnB2 wKey r.ke ++ (headsB r.hd ++ (lnB2 wLng (Lib.itoa r.bd.length) ++ (lnB2 wDig (digestL r.bd) ++ ([] ++ [13, 10] ++ q))))))) :
    ∃ p : Nat, linesC B B.length ⟨pl, ki, id, ow, ti, ke, ln, dg⟩ = (true, ⟨p, r.ki, id, ow, r.ti, r.ke, r.bd.length, digestL r.bd⟩, r.hd) ∧ B.drop p = q ∧ p + q.length = B.length := by
  obtain ⟨k1, k2, k3, k4, k5, k6, k7, k8, k9, k10⟩ := rec_ok h
  obtain ⟨a1, a2, a3, a4, a5⟩ := stepR (acc := kindB) hB (by decide) (kindW_bare _) (by unfold kindB; rw [kind_back k1 k2]; exact decide_eq_true (by omega))
  obtain ⟨b1, b2, b3, b4, b5⟩ := stepR (acc := rdB) a3 (by decide) (date_bare k5 k6) (rdB_date k5 k6)
  obtain ⟨c1, c2, c3, c4, c5⟩ := stepR (acc := fun _ => true) b3 (by decide) (tg_bare k7) rfl
  obtain ⟨l1, l2, l3⟩ := len_back (n := r.bd.length) (by omega)
  have hlen := congrArg List.length hB
  have hge := headsB_ge r.hd
  simp only [List.length_append, List.length_drop] at hlen
  have d := hds_back r.hd (B.length + 1) _ [] (rec_heads h) (by omega) c3
  have d3 : B.drop (pl + (lnB2 wKind (kindW.getD (r.ki - 1).toNat [])).length + (lnB2 wDate (dateTextL r.ti)).length + (lnB2 wKey r.ke).length + (headsB r.hd).length) = (lnB2 wLng (Lib.itoa r.bd.length) ++ (lnB2 wDig (digestL r.bd) ++ ([] ++ [13, 10] ++ q))) := by rw [← List.drop_drop, c3, List.drop_left]
  obtain ⟨e1, e2, e3, e4, e5⟩ := stepR (acc := fun v => digL v 9) d3 (by decide) l3 l1
  obtain ⟨f1, f2, f3, f4, f5⟩ := stepR (acc := dgB) e3 (by decide) (dgB_bare (digest_dg r.bd)) (digest_dg r.bd)
  obtain ⟨g1, g2, g3⟩ := whole_at f3 rfl
  refine ⟨_, ?_, g3, ?_⟩
  · unfold linesC linesD
    dsimp only
    rw [if_neg (by rw [a1]; simp), a2, if_neg (by rw [b1]; simp), b2, if_neg (by rw [c1]; simp), c2, d]
    dsimp only
    rw [if_neg (by simp), if_neg (by rw [e1]; simp), e2, if_neg (by rw [f1]; simp), f2, g1, g2]
    rw [lnF_ok a4, lnF_ok b4, lnF_ok c4, lnF_ok e4, lnF_ok f4, a5, b5, c5, e5, f5, if_pos l1, l2, kind_back k1 k2]
    unfold rdV
    rw [if_pos (rdB_date k5 k6), momF_date k5 k6]
    simp
  · simp only [List.length_nil, List.length_cons] at hlen ⊢
    omega
theorem rec_split (r : Rcd) (q : List UInt8) : recB r ++ q = wKept0 ++ [13, 10] ++ (lnB2 wId r.id ++ ((if r.ow = [] then [] else lnB2 wOf r.ow) ++ (lnB2 wKind (kindW.getD (r.ki - 1).toNat []) ++ (lnB2 wDate (dateTextL r.ti) ++ (lnB2 wKey r.ke ++ (headsB r.hd ++ (lnB2 wLng (Lib.itoa r.bd.length) ++ (lnB2 wDig (digestL r.bd) ++ ([] ++ [13, 10] ++ (r.bd ++ crlf2 ++ q)))))))))) := by
  unfold recB recP recQ
  simp [wKept, wKept0, crlf2, wId, wOf, wKind, wDate, wKey, wLng, wDig]
/-- the reader over the lines of a record -/
theorem lines_back {B q : List UInt8} {r : Rcd} {a : Nat} (h : checkRecL r = 0) (ha : a ≤ B.length) (hB : B.drop a = recB r ++ q) : ∃ pl : Nat, linesL B B.length (rp0 a) = (true, ⟨pl, r.ki, r.id, r.ow, r.ti, r.ke, r.bd.length, digestL r.bd⟩, r.hd) ∧ B.drop pl = r.bd ++ crlf2 ++ q ∧ pl + (r.bd ++ crlf2 ++ q).length = B.length := by
  obtain ⟨k1, k2, k3, k4, k5, k6, k7, k8, k9, k10⟩ := rec_ok h
  have hlen := congrArg List.length hB
  rw [rec_split] at hB
  obtain ⟨a1, a2, a3⟩ := whole_at hB (by decide)
  obtain ⟨b1, b2, b3, b4, b5⟩ := stepR (acc := fun _ => true) a3 (by decide) (nm_bare k3) rfl
  have hp2 : a + wKept0.length + 2 + (lnB2 wId r.id).length ≤ B.length := by
    have := congrArg List.length hB
    simp only [List.length_append, List.length_drop, List.length_cons, List.length_nil] at this
    omega
  unfold linesL rp0
  dsimp only
  by_cases ho : r.ow = []
  · rw [if_pos ho, List.nil_append] at b3
    have hL : isL B (a + wKept0.length + 2 + (lnB2 wId r.id).length) wOf = false := by
      refine isL_not 0 0 (by simp [wOf]) ?_
      rw [b3]
      simp [lnB2, wKind, wOf]
    obtain ⟨p, c1, c2, c3⟩ := linesC_back h (a + wKept0.length + 2 + (lnB2 wId r.id).length) 0 0 0 r.id [] [] [] hp2 b3
    refine ⟨p, ?_, c2, c3⟩
    rw [if_neg (by rw [a1]; simp), a2, if_neg (by rw [b1]; simp), b2, if_neg (by rw [hL]; simp), lnF_ok b4, b5, c1, ho]
  · rw [if_neg ho] at b3
    obtain ⟨d1, d2, d3, d4, d5⟩ := stepR (acc := ofB) b3 (by decide) (nm_bare (k4.resolve_left ho)) (by unfold ofB; simpa using ho)
    have hL := isL_at b3
    have hp3 : a + wKept0.length + 2 + (lnB2 wId r.id).length + (lnB2 wOf r.ow).length ≤ B.length := by
      have := congrArg List.length b3
      simp only [List.length_append, List.length_drop] at this
      have : 2 ≤ (lnB2 wKind (kindW.getD (r.ki - 1).toNat [])).length := by
        unfold lnB2
        simp only [List.length_append, List.length_cons, List.length_nil]
        omega
      omega
    obtain ⟨p, c1, c2, c3⟩ := linesC_back h (a + wKept0.length + 2 + (lnB2 wId r.id).length + (lnB2 wOf r.ow).length) 0 0 0 r.id r.ow [] [] hp3 d3
    refine ⟨p, ?_, c2, c3⟩
    rw [if_neg (by rw [a1]; simp), a2, if_neg (by rw [b1]; simp), b2, if_pos hL, if_neg (by rw [d1]; simp), d2, lnF_ok b4, b5, lnF_ok d4, d5, c1]
/-- a record is read as it was written -/
theorem rd_back {B q : List UInt8} {r : Rcd} {a : Nat} (h : checkRecL r = 0) (ha : a ≤ B.length) (hB : B.drop a = recB r ++ q) : rdOne B a = (r, ((a + (recB r).length : Nat) : Int), 0) := by
  obtain ⟨pl, e, e2, e3⟩ := lines_back h ha hB
  have hlen := congrArg List.length hB
  simp only [List.length_append, List.length_drop] at hlen e3
  have h4 : crlf2.length = 4 := rfl
  have hb : ((B.drop pl).take r.bd.length) = r.bd := by rw [e2, List.append_assoc, List.take_left]
  have hc : (B.drop (pl + r.bd.length)).take 4 = crlf2 := by
    rw [← List.drop_drop, e2, List.append_assoc, List.drop_left]
    exact List.take_left (l₁ := crlf2)
  unfold rdOne
  rw [e]
  dsimp only
  rw [if_neg (by simp), if_neg (by omega), show (((pl : Nat) : Int) + (r.bd.length : Nat)).toNat = pl + r.bd.length by omega, hc, if_neg (by simp), Int.toNat_natCast, hb, if_neg (by simp), if_neg (by simpa using h)]
  refine Prod.ext rfl (Prod.ext ?_ rfl)
  show (pl : Int) + (r.bd.length : Nat) + 4 = ((a + (recB r).length : Nat) : Int)
  omega

/- what was read is written so -/
theorem stepI {B w : List UInt8} {i : Nat} {acc : List UInt8 → Bool} (h : lnR B i w acc = true) : B.drop i = lnB2 w (lineV B i w) ++ B.drop (lnA B i w acc) ∧ acc (lineV B i w) = true ∧ lineOk B i w = true := by
  obtain ⟨h1, h2, h3⟩ := lnR_ok h
  rw [h3]
  exact ⟨line_inv h1, h2, h1⟩
theorem wholeI {B w : List UInt8} {i : Nat} (h : wholeB B i w = true) : B.drop i = w ++ [13, 10] ++ B.drop (wholeA B i w) := by
  unfold wholeA
  rw [if_pos h]
  unfold wholeB at h
  simp only [Bool.and_eq_true, beq_iff_eq] at h
  obtain ⟨h1, h2⟩ := h
  unfold lnB at h1
  cases e : lineS (B.drop i) with
  | none => rw [e] at h1; cases h1
  | some s =>
    have hi := lineS_inv e
    unfold lnN
    unfold lnS at h2
    rw [e] at h2 ⊢
    simp only [Option.getD_some] at h2 ⊢
    rw [List.drop_drop] at hi
    rw [hi, h2, show i + w.length + 2 = i + (w.length + 2) by omega]
theorem kindI_wd {v : List UInt8} (h : kindB v = true) : kindW.getD (kindI v - 1).toNat [] = v := by
  unfold kindB kindI at *
  have h := of_decide_eq_true h
  unfold idxL at *
  cases e : kindW.findIdx? (· == v) with
  | none => rw [e] at h; simp at h
  | some k =>
    rw [List.findIdx?_eq_some_iff_getElem] at e
    obtain ⟨hk, h2, _⟩ := e
    have h2 : kindW[k] = v := by simpa using h2
    show kindW.getD ((k : Int) + 1 - 1).toNat [] = v
    rw [show ((k : Int) + 1 - 1).toNat = k by omega, List.getD_eq_getElem?_getD, List.getElem?_eq_getElem hk]
    exact h2
theorem rdB_text {v : List UInt8} (h : rdB v = true) : dateTextL (rdV v) = v := by
  unfold rdV
  rw [if_pos h]
  unfold rdB at h
  exact (of_decide_eq_true h).2.2
theorem digL_text {v : List UInt8} (h : digL v 9 = true) : Lib.itoa ((natOf v : Nat) : Int) = v := by
  obtain ⟨h1, _, h3, h4⟩ := digL_all h
  rw [itoa_nat]
  exact dec_natOf h3 h1 (h4.imp id fun e => by rw [e]; rfl)
/-- from the kind on -/
theorem linesC_inv {B : List UInt8} {n : Nat} {x : Rp} (h : (linesC B n x).1 = true) :
    (linesC B n x).2.1.id = x.id ∧ (linesC B n x).2.1.ow = x.ow ∧ 0 ≤ (linesC B n x).2.1.ln ∧
    B.drop x.pl = lnB2 wKind (kindW.getD ((linesC B n x).2.1.ki - 1).toNat []) ++ (lnB2 wDate (dateTextL (linesC B n x).2.1.ti) ++ (lnB2 wKey (linesC B n x).2.1.ke ++ (headsB (linesC B n x).2.2 ++ (lnB2 wLng (Lib.itoa (linesC B n x).2.1.ln) ++ (lnB2 wDig (linesC B n x).2.1.dg ++ ([] ++ [13, 10] ++ B.drop (linesC B n x).2.1.pl)))))) := by
  unfold linesC at h ⊢
  dsimp only at h ⊢
  by_cases h1 : lnR B x.pl wKind kindB = false
  · rw [if_pos h1] at h; cases h
  rw [if_neg h1] at h ⊢
  obtain ⟨a1, a2, a3⟩ := stepI (by simpa using h1)
  generalize hp1 : lnA B x.pl wKind kindB = p1 at *
  by_cases h2 : lnR B p1 wDate rdB = false
  · rw [if_pos h2] at h; cases h
  rw [if_neg h2] at h ⊢
  obtain ⟨b1, b2, b3⟩ := stepI (by simpa using h2)
  generalize hp2 : lnA B p1 wDate rdB = p2 at *
  by_cases h3 : lnR B p2 wKey (fun _ => true) = false
  · rw [if_pos h3] at h; cases h
  rw [if_neg h3] at h ⊢
  obtain ⟨c1, c2, c3⟩ := stepI (acc := fun _ => true) (by simpa using h3)
  generalize hp3 : lnA B p2 wKey (fun _ => true) = p3 at *
  by_cases h4 : (hdsR B (n + 1) p3 []).1 = false
  · rw [if_pos h4] at h; cases h
  rw [if_neg h4] at h ⊢
  obtain ⟨hs, d1, d2, d3⟩ := hds_inv (n + 1) p3 [] (by simpa using h4)
  rw [List.nil_append] at d1
  rw [d1] at h ⊢
  generalize (hdsR B (n + 1) p3 []).2.1 = p4 at *
  unfold linesD at h ⊢
  dsimp only at h ⊢
  by_cases h5 : lnR B p4 wLng (fun v => digL v 9) = false
  · rw [if_pos h5] at h; cases h
  rw [if_neg h5] at h ⊢
  obtain ⟨e1, e2, e3⟩ := stepI (acc := fun v => digL v 9) (by simpa using h5)
  generalize hp5 : lnA B p4 wLng (fun v => digL v 9) = p5 at *
  by_cases h6 : lnR B p5 wDig dgB = false
  · rw [if_pos h6] at h; cases h
  rw [if_neg h6] at h ⊢
  obtain ⟨f1, f2, f3⟩ := stepI (by simpa using h6)
  generalize hp6 : lnA B p5 wDig dgB = p6 at *
  have g := wholeI h
  rw [lnF_ok a3, lnF_ok b3, lnF_ok c3, lnF_ok e3, lnF_ok f3]
  dsimp only at e2 ⊢
  rw [if_pos e2]
  refine ⟨rfl, rfl, by omega, ?_⟩
  rw [kindI_wd a2, rdB_text b2, digL_text e2, ← g, ← f1, ← e1, ← d2, ← c1, ← b1]
  exact a1
theorem linesL_inv {B : List UInt8} {n a : Nat} (h : (linesL B n (rp0 a)).1 = true) :
    0 ≤ (linesL B n (rp0 a)).2.1.ln ∧
    B.drop a = wKept0 ++ [13, 10] ++ (lnB2 wId (linesL B n (rp0 a)).2.1.id ++ ((if (linesL B n (rp0 a)).2.1.ow = [] then [] else lnB2 wOf (linesL B n (rp0 a)).2.1.ow) ++ (lnB2 wKind (kindW.getD ((linesL B n (rp0 a)).2.1.ki - 1).toNat []) ++ (lnB2 wDate (dateTextL (linesL B n (rp0 a)).2.1.ti) ++ (lnB2 wKey (linesL B n (rp0 a)).2.1.ke ++ (headsB (linesL B n (rp0 a)).2.2 ++ (lnB2 wLng (Lib.itoa (linesL B n (rp0 a)).2.1.ln) ++ (lnB2 wDig (linesL B n (rp0 a)).2.1.dg ++ ([] ++ [13, 10] ++ B.drop (linesL B n (rp0 a)).2.1.pl))))))))) := by
  unfold linesL at h ⊢
  dsimp only at h ⊢
  by_cases h1 : wholeB B (rp0 a).pl wKept0 = false
  · rw [if_pos h1] at h; cases h
  rw [if_neg h1] at h ⊢
  have a1 := wholeI (by simpa using h1)
  generalize hp1 : wholeA B (rp0 a).pl wKept0 = p1 at *
  by_cases h2 : lnR B p1 wId (fun _ => true) = false
  · rw [if_pos h2] at h; cases h
  rw [if_neg h2] at h ⊢
  obtain ⟨b1, b2, b3⟩ := stepI (acc := fun _ => true) (by simpa using h2)
  generalize hp2 : lnA B p1 wId (fun _ => true) = p2 at *
  by_cases h3 : isL B p2 wOf = true
  · rw [if_pos h3] at h ⊢
    by_cases h4 : lnR B p2 wOf ofB = false
    · rw [if_pos h4] at h; cases h
    rw [if_neg h4] at h ⊢
    obtain ⟨c1, c2, c3⟩ := stepI (by simpa using h4)
    obtain ⟨d1, d2, d3, d4⟩ := linesC_inv h
    dsimp only at d1 d2 d4
    rw [d1, d2]
    refine ⟨d3, ?_⟩
    rw [← d4, lnF_ok b3, lnF_ok c3, if_neg (by unfold ofB at c2; simpa using c2), ← c1, ← b1]
    exact a1
  · rw [if_neg h3] at h ⊢
    obtain ⟨d1, d2, d3, d4⟩ := linesC_inv h
    dsimp only at d1 d2 d4
    rw [d1, d2]
    refine ⟨d3, ?_⟩
    rw [← d4, lnF_ok b3]
    show B.drop a = wKept0 ++ [13, 10] ++ (lnB2 wId (lineV B p1 wId) ++ ([] ++ B.drop p2))
    rw [List.nil_append, ← b1]
    exact a1
/-- what was read without an error stood there, as it is written -/
theorem rd_inv {B : List UInt8} {a : Nat} (ha : a ≤ B.length) (h : (rdOne B a).2.2 = 0) : ∃ k : Nat, (rdOne B a).2.1 = k ∧ k ≤ B.length ∧ a < k ∧ checkRecL (rdOne B a).1 = 0 ∧ B.drop a = recB (rdOne B a).1 ++ B.drop k ∧ k = a + (recB (rdOne B a).1).length := by
  have lk := (linesL_ok (B := B) (rp0_ok (n := B.length) (a := a) ha)).1
  unfold rdOne at h ⊢
  dsimp only at h ⊢
  by_cases h1 : (linesL B B.length (rp0 a)).1 = false
  · rw [if_pos h1] at h; cases h
  rw [if_neg h1] at h ⊢
  obtain ⟨l0, li⟩ := linesL_inv (by simpa using h1)
  generalize linesL B B.length (rp0 a) = L at *
  obtain ⟨ok, ⟨pl, ki, id, ow, ti, ke, ln, dg⟩, hs⟩ := L
  have lp : pl ≤ B.length := lk.pl
  clear lk
  dsimp only at l0 li h ⊢
  obtain ⟨ln, rfl⟩ : ∃ k : Nat, ln = k := ⟨ln.toNat, by omega⟩
  rw [show ((pl : Int) + (ln : Int)).toNat = pl + ln by omega] at h ⊢
  rw [Int.toNat_natCast] at h ⊢
  by_cases h2 : (B.length : Int) < (pl : Int) + ln + 4
  · rw [if_pos h2] at h; cases h
  rw [if_neg h2] at h ⊢
  by_cases h3 : (B.drop (pl + ln)).take 4 ≠ crlf2
  · rw [if_pos h3] at h; cases h
  rw [if_neg h3] at h ⊢
  by_cases h4 : digestL ((B.drop pl).take ln) ≠ dg
  · rw [if_pos h4] at h; cases h
  rw [if_neg h4] at h ⊢
  by_cases h5 : checkRecL ⟨ki, id, ow, ti, ke, hs, (B.drop pl).take ln⟩ ≠ 0
  · rw [if_pos h5] at h; exact (h5 h).elim
  rw [if_neg h5]
  have h3 : (B.drop (pl + ln)).take 4 = crlf2 := by simpa using h3
  have h4 : digestL ((B.drop pl).take ln) = dg := by simpa using h4
  have hb : ((B.drop pl).take ln).length = ln := by rw [List.length_take, List.length_drop]; omega
  have e1 : B.drop pl = ((B.drop pl).take ln ++ crlf2) ++ B.drop (pl + ln + 4) := by
    rw [List.append_assoc, ← h3, ← List.drop_drop (i := 4), List.take_append_drop, ← List.drop_drop (i := ln), List.take_append_drop]
  have key : B.drop a = recB ⟨ki, id, ow, ti, ke, hs, (B.drop pl).take ln⟩ ++ B.drop (pl + ln + 4) := by
    rw [rec_split]
    dsimp only
    rw [hb, h4, ← e1]
    exact li
  have hl := congrArg List.length key
  simp only [List.length_append, List.length_drop] at hl
  have hpos : 4 ≤ (recB ⟨ki, id, ow, ti, ke, hs, (B.drop pl).take ln⟩).length := by
    unfold recB
    simp only [List.length_append, List.length_cons, List.length_nil]
    omega
  dsimp only
  exact ⟨pl + ln + 4, by show (pl : Int) + ln + 4 = ((pl + ln + 4 : Nat) : Int); omega, by omega, by omega, by simpa using h5, key, by omega⟩

/- a file is read as it was written, and what was read is written so -/
def marksL : Nat → List Rcd → List Mk
  | _, [] => []
  | a, r :: t => ⟨r.id, a, ((a + (recB r).length : Nat) : Int)⟩ :: marksL (a + (recB r).length) t
theorem recB_pos (r : Rcd) : 4 ≤ (recB r).length := by
  unfold recB
  simp only [List.length_append, List.length_cons, List.length_nil]
  omega
theorem rf_back {B : List UInt8} : ∀ (k a : Nat) (l t : List Rcd) (m : List Mk), a ≤ B.length → B.drop a = fileB t → (∀ r ∈ t, checkRecL r = 0) → checkFileL (l ++ t) = 0 → t.length < k → rfGo B k a l m = (l ++ t, m ++ marksL a t, 0, 0)
  | k + 1, a, l, [], m, ha, hd, hc, hf, hk => by
    have : B.length ≤ a := by simpa [fileB] using hd
    rw [List.append_nil] at hf
    rw [rfGo, if_neg (by omega), if_pos hf]
    simp [marksL]
  | k + 1, a, l, r :: t, m, ha, hd, hc, hf, hk => by
    have h1 := hc r (by simp)
    have hb := rd_back h1 ha (q := fileB t) (by rw [hd, fileB])
    have hl := congrArg List.length hd
    simp only [fileB, List.length_append, List.length_drop] at hl
    have hp := recB_pos r
    rw [rfGo, if_pos (by omega), hb]
    dsimp only
    rw [if_pos rfl, Int.toNat_natCast]
    have hd2 : B.drop (a + (recB r).length) = fileB t := by rw [← List.drop_drop, hd, fileB, List.drop_left]
    rw [rf_back k (a + (recB r).length) (l ++ [r]) t _ (by omega) hd2 (fun x hx => hc x (by simp [hx])) (by simpa using hf) (by simp at hk; omega)]
    simp [marksL]
theorem rf_err {B : List UInt8} : ∀ (k a : Nat) (l : List Rcd) (m : List Mk), (rfGo B k a l m).2.2.2 ≠ 0 → (rfGo B k a l m).1 = []
  | 0, a, l, m, h => rfl
  | k + 1, a, l, m, h => by
    rw [rfGo] at h ⊢
    by_cases h1 : a < B.length
    · rw [if_pos h1] at h ⊢
      by_cases h2 : (rdOne B a).2.2 = 0
      · rw [if_pos h2] at h ⊢; exact rf_err k _ _ _ h
      · rw [if_neg h2]
    · rw [if_neg h1] at h ⊢
      by_cases h2 : checkFileL l = 0
      · rw [if_pos h2] at h; exact (h rfl).elim
      · rw [if_neg h2]
theorem rf_inv {B : List UInt8} (hB : B.length ≤ 500000) : ∀ (k a : Nat) (l : List Rcd) (m : List Mk), a ≤ B.length → B.length - a < k → (rfGo B k a l m).2.2.2 = 0 → ∃ t, (rfGo B k a l m).1 = l ++ t ∧ B.drop a = fileB t ∧ checkFileL (l ++ t) = 0 ∧ ∀ r ∈ t, recOk r
  | k + 1, a, l, m, ha, hk, h => by
    rw [rfGo] at h ⊢
    by_cases h1 : a < B.length
    · rw [if_pos h1] at h ⊢
      by_cases h2 : (rdOne B a).2.2 = 0
      · rw [if_pos h2] at h ⊢
        obtain ⟨n, e1, e2, e3, e4, e5, e6⟩ := rd_inv ha h2
        have hok := (rdOne_fit hB ha).1
        rw [e1, Int.toNat_natCast] at h ⊢
        obtain ⟨t, t1, t2, t3, t4⟩ := rf_inv hB k n _ _ e2 (by omega) h
        refine ⟨(rdOne B a).1 :: t, by rw [t1]; simp, by rw [e5, t2, fileB], by rw [← t3]; simp, fun r hr => ?_⟩
        rcases List.mem_cons.1 hr with rfl | hr
        · exact hok
        · exact t4 r hr
      · rw [if_neg h2] at h; exact (h2 h).elim
    · rw [if_neg h1] at h ⊢
      by_cases h2 : checkFileL l = 0
      · rw [if_pos h2]
        exact ⟨[], by simp, by rw [List.drop_eq_nil_of_le (by omega)]; rfl, by simpa using h2, fun r hr => by cases hr⟩
      · rw [if_neg h2] at h; exact (h2 h).elim
theorem fileB_ge : ∀ (l : List Rcd), l.length ≤ (fileB l).length
  | [] => Nat.le_refl _
  | r :: t => by
    have := fileB_ge t
    have := recB_pos r
    simp only [fileB, List.length_append, List.length_cons]
    omega
theorem file_back {l : List Rcd} (h : checkFileL l = 0) : readFileL (fileB l) = (l, marksL 0 l, 0, 0) := by
  obtain ⟨a1, a2, a3⟩ := file_ok h
  have := fileB_ge l
  unfold readFileL
  rw [if_neg (by omega), rf_back ((fileB l).length + 1) 0 [] l [] (Nat.zero_le _) rfl a1 (by simpa using h) (by omega)]
  simp
theorem file_inv {B : List UInt8} (h : (readFileL B).2.2.2 = 0) : checkFileL (readFileL B).1 = 0 ∧ fileB (readFileL B).1 = B ∧ recsOk (readFileL B).1 := by
  unfold readFileL at h ⊢
  by_cases hB : 500000 < B.length
  · rw [if_pos hB] at h; cases h
  rw [if_neg hB] at h ⊢
  obtain ⟨t, t1, t2, t3, t4⟩ := rf_inv (by omega) (B.length + 1) 0 [] [] (Nat.zero_le _) (by omega) h
  rw [List.nil_append] at t1 t3
  rw [t1]
  exact ⟨t3, t2.symm, t4⟩
theorem file_err {B : List UInt8} (h : (readFileL B).2.2.2 ≠ 0) : (readFileL B).1 = [] := by
  unfold readFileL at h ⊢
  by_cases hB : 500000 < B.length
  · rw [if_pos hB]
  · rw [if_neg hB] at h ⊢; exact rf_err _ _ _ _ h

def ckLawFB : Ck
  | [.sl n f, .sl m g] => some ((isLv cRec n f ∧ recsOk (lsOf cRec n f)) ∧ isBy m g ∧ m ≤ 140737488355328, .bool true)
  | _ => none
theorem conLawFB : Con pg 9 ckLawFB := by
  have hct := (ctA_ok conFileBytes (ctA_ok conReadFile (ctA_ok conSameAll (ctA_ok conBEqual (ctA_ok conAwake6 (ctN_ok _))))))
  intro args q r h hq
  unfold ckLawFB at h
  split at h
  · cases h
    rename_i n f m g
    refine pcall_args (args' := [.sl (lsOf cRec n f).length (lsF cRec (lsOf cRec n f)), .sl (bytesOf m g).length (byF (bytesOf m g))]) ⟨hq.1.1, isBy.vle hq.2.1, trivial⟩ ?_
    obtain ⟨⟨-, ha⟩, -, hm⟩ := hq
    generalize lsOf cRec n f = l at ha ⊢
    have hl := bytesOf_len m g
    rw [← hl] at hm
    generalize bytesOf m g = B at hm ⊢
    clear hl
    refine w9 (fun _ => false) [] rfl hct rfl rfl ?_
    push_cast (config := { maxSteps := 10000000 })
    have part2 : B.length ≤ 140737488355328 ∧ (¬(readFileL B).snd.snd.snd = 0 → (((readFileL B).fst.length : Nat) : Int) = 0) ∧ ((readFileL B).snd.snd.snd = 0 → recsOk (readFileL B).fst ∧ checkFileL (readFileL B).fst = 0 ∧ fileR (readFileL B).fst = B) := by
      refine ⟨hm, fun h => by rw [file_err h]; rfl, fun h => ?_⟩
      obtain ⟨a, b, c⟩ := file_inv h
      exact ⟨c, a, by unfold fileR; rw [if_pos a]; exact b⟩
    refine ⟨ha, fun h => ?_, fun _ => part2⟩
    have hf : fileR l = fileB l := by unfold fileR; rw [if_pos h]
    have hx := file_back h
    obtain ⟨f1, f2, f3⟩ := file_ok h
    rw [hf, hx]
    refine ⟨by omega, fun _ => ⟨⟨rfl, rfl⟩, by show l.length ≤ 1000000; omega, fun r hr => by have := (ha r hr).2.2.2.2.1; omega⟩, fun h => ?_, fun _ => part2⟩
    rcases h with (h | h) | h
    · exact h rfl
    · exact h rfl
    · exact h rfl
  · cases h
attribute [push_cast] ckLawFB
theorem allLawFB {H : Type} (ds : List (DataW H)) (hh : hasD [.list (.tup [.int .i64, .str, .str, .int .i64, .str, .list (.tup [.str, .str]), .list (.int .u8)]), .list (.int .u8)] ds) : PCall pg 9 (ds.map toV) (.bool true) := by
  obtain ⟨d1, d2, rfl, a, b⟩ := hasD2 hh
  obtain ⟨n, f, e1, i1, b1, k1⟩ := shRecs a
  obtain ⟨m, g, e2, i2, b2⟩ := shBytes b
  have := reach_le
  simp only [List.map_cons, List.map_nil, e1, e2]
  exact conLawFB _ _ _ rfl ⟨⟨i1, k1⟩, i2, by omega⟩

def offL (l : List Rcd) (i : Nat) : Nat := (fileB (l.take i)).length
theorem off_succ {l : List Rcd} {i : Nat} (h : i < l.length) : offL l (i + 1) = offL l i + (recB (l.getD i noRec)).length := by
  unfold offL
  rw [takeG (d := noRec) h, fileB_app]
  simp [fileB]
theorem off_drop {l : List Rcd} {i : Nat} (h : i < l.length) : (fileB l).drop (offL l i) = recB (l.getD i noRec) ++ fileB (l.drop (i + 1)) := by
  have e : fileB l = fileB (l.take i) ++ fileB (l.drop i) := by rw [← fileB_app, List.take_append_drop]
  unfold offL
  conv => lhs; rw [e]
  rw [List.drop_left, dropG (d := noRec) h, fileB]
theorem off_le (l : List Rcd) (i : Nat) : offL l i ≤ (fileB l).length := by
  have e : fileB l = fileB (l.take i) ++ fileB (l.drop i) := by rw [← fileB_app, List.take_append_drop]
  rw [e, List.length_append]; unfold offL; omega
theorem marksL_len : ∀ (a : Nat) (l : List Rcd), (marksL a l).length = l.length
  | a, [] => rfl
  | a, r :: t => by rw [marksL, List.length_cons, marksL_len, List.length_cons]
theorem marksL_at : ∀ (a : Nat) (l : List Rcd) (i : Nat), i < l.length → (marksL a l).getD i noMk = ⟨(l.getD i noRec).id, ((a + offL l i : Nat) : Int), ((a + offL l (i + 1) : Nat) : Int)⟩
  | a, [], i, h => by simp at h
  | a, r :: t, 0, h => by simp [marksL, offL, fileB]
  | a, r :: t, i + 1, h => by
    have := marksL_at (a + (recB r).length) t i (by simpa using h)
    rw [marksL, List.getD_cons_succ, this]
    simp only [List.getD_cons_succ, offL, List.take_succ_cons, fileB, List.length_append]
    congr 2 <;> omega
def ckLawMR : Ck
  | [.sl n f] => some (isLv cRec n f ∧ recsOk (lsOf cRec n f), .bool true)
  | _ => none
theorem conLawMR : Con pg 10 ckLawMR := by
  have hct := (ctA_ok conFileBytes (ctA_ok conMarks (ctA_ok conReadOne (ctA_ok conSame6 (ctA_ok conAwake6 (ctN_ok _))))))
  intro args q r h hq
  unfold ckLawMR at h
  split at h
  · cases h
    rename_i n f
    refine pcall_args (args' := [.sl (lsOf cRec n f).length (lsF cRec (lsOf cRec n f))]) ⟨hq.1, trivial⟩ ?_
    obtain ⟨-, ha⟩ := hq
    generalize lsOf cRec n f = l at ha ⊢
    refine w10 (fun _ => false) [] rfl hct rfl rfl ?_
    push_cast (config := { maxSteps := 10000000 })
    refine ⟨ha, fun h => by unfold fileR; rw [if_neg h]; rfl, fun h => ?_⟩
    have hf : fileR l = fileB l := by unfold fileR; rw [if_pos h]
    have hx := file_back h
    obtain ⟨f1, f2, f3⟩ := file_ok h
    rw [hf, hx]
    have hml := marksL_len 0 l
    refine ⟨by omega, fun h => ?_, fun _ => ?_⟩
    · rcases h with h | h
      · exact h rfl
      · exact h hml
    refine LoopW.adj ⟨hct, fol⟩ (by kernel_rfl) [] (fun t : Nat => [(0, .sl l.length (lsF cRec l)), (3, .sl (fileB l).length (byF (fileB l))), (5, .sl (marksL 0 l).length (lsF cMk (marksL 0 l))), (6, .int .i64 (offL l t)), (7, .int .i64 t)]) (fun t => []) (fun t => t ≤ l.length) (fun t => l.length - t) 0 ?_ fun t ht => ?_
    · push_cast (config := { maxSteps := 10000000 })
      exact ⟨Nat.zero_le _, by simp [offL, fileB]⟩
    · have ht : t ≤ l.length := ht
      push_cast (config := { maxSteps := 10000000 })
      refine ⟨fun hlt => ?_, fun hge => ?_⟩
      · have hlt' : t < l.length := by omega
        have hm := marksL_at 0 l t hlt'
        have hr : rdOneR (fileB l) (offL l t) = (l.getD t noRec, ((offL l (t + 1) : Nat) : Int), 0) := by
          have hmem : l.getD t noRec ∈ l := by rw [List.getD_eq_getElem?_getD, List.getElem?_eq_getElem hlt']; exact List.getElem_mem hlt'
          have hb := rd_back (f1 _ hmem) (off_le l t) (off_drop hlt')
          have := off_le l t
          unfold rdOneR
          rw [if_neg (by omega), Int.toNat_natCast, hb, off_succ hlt']
        have hh := (recsOk_at ha hlt').2.2.2.2.1
        rw [hm]
        dsimp only
        rw [Nat.zero_add, Nat.zero_add, hr]
        dsimp only
        refine ⟨hlt, by omega, fun _ => ⟨rfl, hlt⟩, fun _ => ⟨⟨rfl, rfl⟩, hlt⟩, fun _ => ⟨⟨⟨rfl, rfl⟩, rfl⟩, hlt⟩, fun _ => ⟨⟨⟨rfl, rfl⟩, rfl⟩, hlt'⟩, fun _ => ⟨⟨⟨⟨rfl, rfl⟩, rfl⟩, rfl⟩, hlt'⟩, fun _ => ⟨⟨⟨⟨rfl, rfl⟩, rfl⟩, rfl⟩, by omega⟩, fun h => ?_, fun _ => ⟨⟨by omega, by omega⟩, t + 1, by omega, by omega, rfl, rfl⟩⟩
        rcases h with (((h | h) | h) | h) | h <;> exact h rfl
      · rw [hml] at hge
        unfold offL
        rw [List.take_of_length_le (by omega)]
  · cases h
attribute [push_cast] ckLawMR
theorem allLawMR {H : Type} (ds : List (DataW H)) (hh : hasD [.list (.tup [.int .i64, .str, .str, .int .i64, .str, .list (.tup [.str, .str]), .list (.int .u8)])] ds) : PCall pg 10 (ds.map toV) (.bool true) := by
  obtain ⟨d1, rfl, a⟩ := hasD1 hh
  obtain ⟨n, f, e1, i1, b1, k1⟩ := shRecs a
  simp only [List.map_cons, List.map_nil, e1]
  exact conLawMR _ _ _ rfl ⟨i1, k1⟩

def ckGrow : List V → Option (Prop × V × Blk)
  | [.nilsl, .int .i64 k] => some (0 ≤ k ∧ k ≤ 140737488355328, .vec 8999 0, .vec 1 0 (byF []))
  | _ => none
theorem grown_none (i : Nat) : killH i (hOf []) = hOf [] := by
  funext j
  unfold killH
  split <;> rfl
theorem conGrow : NCon pg 77 ckGrow := by
  intro args q r nb h hq
  unfold ckGrow at h
  split at h
  · rename_i k
    cases h
    obtain ⟨h0, h1⟩ := hq
    intro S vals hs hh hl hr
    match vals, hl with
    | [u, v], _ =>
      have e0 : S.rep .nilsl u := hr 0 (by simp)
      have e1 : S.rep (.int .i64 k) v := hr 1 (by simp)
      obtain ⟨a, rfl⟩ := inv_nil e0
      obtain rfl := inv_int e1
      obtain ⟨n, rfl⟩ := Int.eq_ofNat_of_zero_le h0
      refine .inl ⟨by kernel_rfl, ?_⟩
      have hkb : (Blk.vec 1 0 (byF [])).kill 8999 = Blk.vec 1 0 (byF []) := rfl
      by_cases hn : n = 0
      · subst hn
        refine (Any8.slices_Grow_room Tryz.lgrow a 0 0 0 S.w (by omega) (by omega) (by omega) (by omega)).mono fun e w' ⟨he, hw⟩ => ?_
        subst hw
        have nb : ∀ b, blkOf (.slice a 0 0) = some b → False := fun b h => by cases a <;> simp [blkOf] at h
        obtain ⟨k1, k2⟩ := hs.killH (· = 8999) 8999
        obtain ⟨m1, m2⟩ := k1.upd (· = 8999) 8999 (.slice a 0 0) (.vec 1 0 (byF [])) S.w rfl rfl rfl (Nat.le_refl _) (fun _ _ _ => rfl) (fun b hb => (nb b hb).elim)
          ⟨by decide, fun i hi => by omega, .inl ⟨rfl, a, by simp⟩⟩ (.inl ⟨rfl, fun j b hj hne => by
            simp only [killH, if_neg hne] at hj
            obtain ⟨k, _, rfl⟩ := Option.map_eq_some_iff.1 hj
            exact Blk.men_kill 8999 k⟩)
        refine ⟨_, upd S.γ 8999 (.slice a 0 0), S.imm, he, ?_, ?_, .vec 8999 0 _ _ _ _ (upd_same _ _ _) (Nat.le_refl _) (fun _ => (upd_same _ _ _).symm) rfl⟩
        · have := m1; simp only [hh, grown_none] at this; exact this
        · have := k2.trans m2; simp only [hh, grown_none] at this ⊢; exact this
      · obtain ⟨i0, z0, hi0, hz0, hzs, hs1, hb1⟩ := zok_some (P := Tryz.prog) S (t := 5) (by rw [t5]; exact ⟨rfl, rfl⟩)
        rw [t5] at hzs hs1 hb1
        simp only at hzs hs1 hb1
        refine (Any8.slices_Grow_grow Tryz.lgrow i0 z0 hi0 hz0 (by omega) a 0 0 n [] S.w (by omega) (by omega) (by rw [← hb1]; omega) (by omega) (by rw [Nat.zero_mul]; rfl) (fun _ => rfl) (fun _ _ j v hj => by simp at hj)).mono fun e w' ⟨he, hw⟩ => ?_
        have hG := grownCap_ge S.w (0 + n) 0 5
        change e = .returned (.slice (some ⟨S.w.heap.size, 0, none⟩) 0 (grownCap S.w (0 + n) 0 5)) at he
        generalize hGe : grownCap S.w (0 + n) 0 5 = G at he hG
        change w' = S.w.drew.alloc (.cells (([] : List Value).toArray ++ Builtin.zeroCells z0.cells (0 + n - 0) ++ Builtin.zeroCells z0.cells (grownCap S.w (0 + n) 0 5 - (0 + n))) 5) at hw
        rw [hGe] at hw
        have hp : Pushed S.w w' (.cells (([] : List Value).toArray ++ Builtin.zeroCells z0.cells (0 + n - 0) ++ Builtin.zeroCells z0.cells (G - (0 + n))) 5 (0, 0)) := by
          subst hw
          have p := Pushed.mk' S.w.drew (.cells (([] : List Value).toArray ++ Builtin.zeroCells z0.cells (0 + n - 0) ++ Builtin.zeroCells z0.cells (G - (0 + n))) 5 (0, 0))
          exact ⟨p.os, p.tape, p.output, p.size, p.old, p.new⟩
        obtain ⟨m1, m2, m3⟩ := new_vec (d := 8999) hs (sz := 1) (n := 0) (cap := G) (f := byF []) hp (by decide) (Nat.zero_le _) (by
          simp only [Array.size_append, size_zeroCells, hzs, List.size_toArray, List.length_nil]; omega) (.inl rfl) (fun i hi => by omega) (fun i j hi => by omega) (fun i j hi => by omega)
        refine ⟨_, _, S.imm, he, ?_, ?_, m3⟩
        · have := m1; rw [hh, grown_none, hkb] at this; exact this
        · have := m2; rw [hh, grown_none, hkb] at this; exact this
  · cases h
attribute [push_cast] ckGrow
/- pieces of bytes, one behind the other -/
def slOf : V → List UInt8
  | .sl n f => bytesOf n f
  | _ => []
def isSl : V → Prop
  | .sl n f => isBy n f
  | _ => False
def cBy : Cod (List UInt8) := ⟨fun s => .sl s.length (byF s), slOf, [], fun s => bytesOf_by s⟩
@[push_cast] theorem lsF_by (l : List (List UInt8)) (i : Nat) : lsF cBy l i = .sl (l.getD i []).length (byF (l.getD i [])) := rfl
theorem isSl_ple {v : V} (h : isSl v) : pleL v.flat [.sl (slOf v).length (byF (slOf v))] := by
  cases v <;> first | exact h.elim | skip
  rename_i n f
  exact ⟨PLe.sl h.1 fun i hi => by rw [h.2 i hi]; exact pleL_refl _, trivial⟩
def sumL (l : List (List UInt8)) : Nat := (l.map List.length).sum
def ckCat3 (m : Nat) (a b c : V) : Option (Prop × V) :=
  some (m = 3 ∧ isSl a ∧ isSl b ∧ isSl c ∧ (slOf a).length ≤ 10000000000000 ∧ (slOf b).length ≤ 10000000000000 ∧ (slOf c).length ≤ 10000000000000, .sl (slOf a ++ (slOf b ++ slOf c)).length (byF (slOf a ++ (slOf b ++ slOf c))))
def ckCat : Ck
  | [.sl m F] => ckCat3 m (F 0) (F 1) (F 2)
  | _ => none
theorem sumL_drop {l : List (List UInt8)} {j : Nat} (h : j < l.length) : sumL (l.drop j) = (l.getD j []).length + sumL (l.drop (j + 1)) := by
  rw [dropG (d := []) h]; simp [sumL]
theorem flat_drop {l : List (List UInt8)} {j : Nat} (h : j < l.length) : (l.drop j).flatten = l.getD j [] ++ (l.drop (j + 1)).flatten := by
  rw [dropG (d := []) h]; simp
theorem sumL_flat (l : List (List UInt8)) : l.flatten.length = sumL l := by simp [sumL, List.length_flatten]
theorem conCat : Con pg 36 ckCat := by
  have hct := (ctW_ok conGrow (ctN_ok _))
  intro args q r h hq
  unfold ckCat at h
  split at h
  · cases h
    rename_i m F
    obtain ⟨rfl, ha, hb, hc, la, lb, lc⟩ := hq
    refine pcall_args (args' := [.sl [slOf (F 0), slOf (F 1), slOf (F 2)].length (lsF cBy [slOf (F 0), slOf (F 1), slOf (F 2)])]) ⟨VLe.slP rfl fun i hi => ?_, trivial⟩ ?_
    · match i, hi with
      | 0, _ => exact isSl_ple ha
      | 1, _ => exact isSl_ple hb
      | 2, _ => exact isSl_ple hc
    have hS : sumL [slOf (F 0), slOf (F 1), slOf (F 2)] ≤ 30000000000000 := by simp [sumL]; omega
    have hL : [slOf (F 0), slOf (F 1), slOf (F 2)].length ≤ 3 := Nat.le_refl _
    rw [show slOf (F 0) ++ (slOf (F 1) ++ slOf (F 2)) = [slOf (F 0), slOf (F 1), slOf (F 2)].flatten by simp]
    generalize [slOf (F 0), slOf (F 1), slOf (F 2)] = L at hS hL ⊢
    clear ha hb hc la lb lc
    refine w36 (fun _ => false) [.frz 24] rfl hct rfl rfl ?_
    push_cast (config := { maxSteps := 10000000 })
    refine LoopW.adj ⟨hct, fol⟩ (by kernel_rfl) [] (fun t : Nat × Nat => [(0, .sl L.length (lsF cBy L)), (3, .int .i64 t.2), (9, .sl L.length (lsF cBy L)), (10, .int .i64 L.length), (11, .int .i64 t.1)]) (fun t => []) (fun t => t.1 ≤ L.length ∧ t.2 + sumL (L.drop t.1) = sumL L) (fun t => L.length - t.1) (0, 0) ?_ fun t ht => ?_
    · push_cast (config := { maxSteps := 10000000 })
      exact Nat.zero_le _
    · obtain ⟨j, o⟩ := t
      obtain ⟨h1, h2⟩ : j ≤ L.length ∧ o + sumL (L.drop j) = sumL L := ht
      push_cast (config := { maxSteps := 10000000 })
      refine ⟨fun hlt => ?_, fun hge => ?_⟩
      · have e := sumL_drop hlt
        refine ⟨hlt, ⟨by omega, by omega⟩, fun h => by omega, fun h => ⟨⟨by omega, by omega⟩, (j + 1, o + (L.getD j []).length), ⟨by show j + 1 ≤ L.length; omega, by show o + (L.getD j []).length + sumL (L.drop (j + 1)) = sumL L; omega⟩, by show L.length - (j + 1) < L.length - j; omega, by simp, rfl⟩⟩
      · rw [List.drop_eq_nil_of_le (by omega)] at h2
        have h3 : o = sumL L := h2
        refine ⟨by omega, ?_⟩
        refine LoopW.adj ⟨hct, fol⟩ (by kernel_rfl) [] (fun t : Nat × List UInt8 => [(6, .vec 24 t.2.length), (25, .sl L.length (lsF cBy L)), (26, .int .i64 L.length), (27, .int .i64 t.1)]) (fun t => [(24, .vec 1 t.2.length (byF t.2))]) (fun t => t.1 ≤ L.length ∧ t.2 ++ (L.drop t.1).flatten = L.flatten) (fun t => L.length - t.1) (0, []) ?_ fun t ht => ?_
        · push_cast (config := { maxSteps := 10000000 })
          exact Nat.zero_le _
        · obtain ⟨j, o⟩ := t
          obtain ⟨k1, k2⟩ : j ≤ L.length ∧ o ++ (L.drop j).flatten = L.flatten := ht
          have kl := congrArg List.length k2
          simp only [List.length_append, sumL_flat] at kl
          push_cast (config := { maxSteps := 10000000 })
          refine ⟨fun hlt => ?_, fun hge => ?_⟩
          · have e := sumL_drop hlt
            have e2 := flat_drop hlt
            rw [e2] at k2
            have ap := ByI.app (ByI.by o) (ByI.by (L.getD j [])) rfl
            refine ⟨hlt, ⟨by omega, by omega⟩, ⟨by omega, by omega⟩, (j + 1, o ++ L.getD j []), ⟨by show j + 1 ≤ L.length; omega, by rw [← k2]; simp⟩, by show L.length - (j + 1) < L.length - j; omega, ⟨by simp, rfl⟩, by simp, ap.2⟩
          · rw [List.drop_eq_nil_of_le (by omega)] at k2
            simp only [List.flatten_nil, List.append_nil] at k2
            subst k2
            exact ⟨rfl, fun _ _ => rfl⟩
  · cases h
attribute [push_cast] ckCat

attribute [push_cast] ckCat ckCat3
@[push_cast] theorem isSl_sl (n : Nat) (f : Nat → V) : isSl (.sl n f) = isBy n f := rfl
@[push_cast] theorem slOf_sl (n : Nat) (f : Nat → V) : slOf (.sl n f) = bytesOf n f := rfl
theorem hd_back {r : Rcd} (h : checkRecL r = 0) : r.hd.length ≤ 4611686018427387904 := by
  have h1 := recB_le h
  have h2 := headsB_ge r.hd
  simp only [recB, List.length_append] at h1
  omega
theorem shBulk {m : Nat} {v : V} (h : Sh.has (.list (.int .u8)) m v) : ∃ (n : Nat) (f : Nat → V), v = .sl n f ∧ isBy n f ∧ n ≤ m := by
  obtain ⟨n, f, e, i, _⟩ := shBytes h
  obtain ⟨l, ms, e2, h1, h2, h3, h4⟩ := h
  refine ⟨n, f, e, i, ?_⟩
  rw [e] at e2
  obtain rfl : n = l.length := (V.sl.inj e2).1
  have : ∀ (l : List V) (ms : List Nat), ms.length = l.length → (∀ i, i < l.length → Sh.has (.int .u8) (ms.getD i 0) (l.getD i .any)) → l.length ≤ ms.sum := by
    intro l
    induction l with
    | nil => intros; simp
    | cons x l ih =>
      intro ms hm hi
      match ms, hm with
      | y :: ms, hm =>
        have h0 := hi 0 (by simp)
        obtain ⟨_, _, _, h0⟩ := h0
        have := ih ms (by simpa using hm) fun i h => by have := hi (i + 1) (by simp; omega); simpa using this
        simp at h0 ⊢
        omega
  have := this l ms h1 h4
  omega
def ckLawRB : Ck
  | [x, .sl n f, .sl m g] => some ((isC cRec x ∧ recOk (cRec.dec x)) ∧ (isBy n f ∧ n ≤ 10000000000000) ∧ isBy m g ∧ m ≤ 10000000000000, .bool true)
  | _ => none
theorem conLawRB : Con pg 8 ckLawRB := by
  have hct := (ctA_ok conRecBytes (ctA_ok conReadOne (ctA_ok conSame6 (ctA_ok conAwake6 (ctA_ok conCat (ctN_ok _))))))
  intro args q r h hq
  unfold ckLawRB at h
  split at h
  · cases h
    rename_i x n f m g
    refine pcall_args (args' := [cRec.enc (cRec.dec x), .sl (bytesOf n f).length (byF (bytesOf n f)), .sl (bytesOf m g).length (byF (bytesOf m g))]) ⟨hq.1.1, isBy.vle hq.2.1.1, isBy.vle hq.2.2.1, trivial⟩ ?_
    obtain ⟨⟨-, ha⟩, ⟨-, hn⟩, -, hm⟩ := hq
    generalize cRec.dec x = r at ha ⊢
    have hl := bytesOf_len n f
    rw [← hl] at hn
    generalize bytesOf n f = B at hn ⊢
    clear hl
    have hl := bytesOf_len m g
    rw [← hl] at hm
    generalize bytesOf m g = C at hm ⊢
    clear hl
    refine w8 (fun _ => false) [] rfl hct rfl rfl ?_
    push_cast (config := { maxSteps := 10000000 })
    refine ⟨ha, fun h => by unfold recR; rw [if_neg h]; rfl, fun h => ?_⟩
    have hR : recR r = recB r := by unfold recR; rw [if_pos h]
    have hD : (B ++ (recR r ++ C)).length = B.length + ((recR r).length + C.length) := by simp
    have hk : (B ++ (recR r ++ C)).drop B.length = recB r ++ C := by rw [List.drop_left, hR]
    have hl := recB_le h
    rw [← hR] at hl
    refine ⟨⟨by omega, by omega, by omega⟩, fun h5 => ?_⟩
    have hb := rd_back h (by rw [hD]; omega) hk
    have hX : rdOneR (bytesOf (B.length + ((recR r).length + C.length)) (byF (B ++ (recR r ++ C)))) B.length = (r, ((B.length + (recB r).length : Nat) : Int), 0) := by
      rw [← hD, bytesOf_by, ← hb]
      unfold rdOneR
      rw [if_neg (by rw [hD]; omega), Int.toNat_natCast]
    have hh := hd_back h
    rw [hX]
    refine ⟨⟨?_, by omega⟩, fun _ => ⟨rfl, by omega, by omega⟩, fun _ => ⟨⟨rfl, ?_⟩, hh⟩, ⟨rfl, ?_⟩, rfl⟩
    · rw [← hD]; exact isBy_by _
    · rw [hR]; simp
    · rw [hR]; simp
  · cases h
attribute [push_cast] ckLawRB
theorem allLawRB {H : Type} (ds : List (DataW H)) (hh : hasD [.tup [.int .i64, .str, .str, .int .i64, .str, .list (.tup [.str, .str]), .list (.int .u8)], .list (.int .u8), .list (.int .u8)] ds) (hb : bulkL ds ≤ 1048576) : PCall pg 8 (ds.map toV) (.bool true) := by
  obtain ⟨d1, d2, d3, rfl, a, b, c⟩ := hasD3 hh
  obtain ⟨n, f, e1, i1, b1⟩ := shBulk b
  obtain ⟨m, g, e2, i2, b2⟩ := shBulk c
  simp only [bulkL] at hb
  simp only [List.map_cons, List.map_nil, e1, e2]
  exact conLawRB _ _ _ rfl ⟨⟨(shRec a).1, (shRec a).2⟩, ⟨i1, by omega⟩, i2, by omega⟩

end Go.Abs
