/- what functions of this program compute: contracts, each a function's own -/
import Derived.Test.YtacpgblabfelhaaGreatDoorAbsK2
import Derived.Test.YtacpgblabfelhaaGreatDoorAbsFacts
import Derived.Test.YtacpgblabfelhaaGreatDoorAbsF6
import Derived.Test.YtacpgblabfelhaaGreatDoorAbsShelf
import Derived.Lib.SlTrimSet
import Derived.Lib.Atoi
import Derived.Lib.Itoa
import Derived.Lib.ItoaNum
import Derived.Lib.AtoiErrMem
import Derived.Lib.ItoaLen
import Derived.Lib.SplitLaws
import Derived.Lib.Index
import Derived.Lib.IndexBytes
import Derived.Shelf.Bytes.SlIndexWhole
namespace Go.Abs
open Go Go.Proofs
set_option maxHeartbeats 4000000
set_option maxRecDepth 100000
set_option linter.unusedVariables false
set_option linter.unusedSimpArgs false
/- a record is read as it was written, and what was read is written so -/
theorem line_at {B w v rest : List UInt8} {i : Nat} (h : B.drop i = lnB2 w v ++ rest) (hw : bareL w = true) (hv : bareL v = true) : lineOk B i w = true ∧ lineV B i w = v ∧ lnN B i = i + (lnB2 w v).length ∧ B.drop (i + (lnB2 w v).length) = rest := by
  have hb : bareL (w ++ [58, 32] ++ v) = true := by rw [bare_app, bare_app, hw, hv]; rfl
  have e : lineS (B.drop i) = some (w ++ [58, 32] ++ v) := by
    rw [h]
    exact lineS_app _ rest hb
  have hd : B.drop (i + (lnB2 w v).length) = rest := by rw [← List.drop_drop, h, List.drop_left]
  unfold lineOk lineV lnB lnS lnN
  rw [e]
  refine ⟨?_, ?_, ?_, hd⟩
  · rw [Option.isSome_some, Bool.true_and]
    exact hasPre_iff.2 ⟨v, by simp⟩
  · simp
  · simp [lnB2]; omega
theorem line_inv {B w : List UInt8} {i : Nat} (h : lineOk B i w = true) : B.drop i = lnB2 w (lineV B i w) ++ B.drop (lnN B i) := by
  unfold lineOk at h
  simp only [Bool.and_eq_true] at h
  obtain ⟨h1, h2⟩ := h
  unfold lnB at h1
  cases e : lineS (B.drop i) with
  | none => rw [e] at h1; cases h1
  | some s =>
    have hi := lineS_inv e
    unfold lineV lnS lnN
    unfold lnS at h2
    rw [e] at h2 ⊢
    simp only [Option.getD_some] at h2 ⊢
    obtain ⟨r, hr⟩ := hasPre_iff.1 h2
    rw [List.drop_drop] at hi
    rw [hi]
    have e1 : s.drop (w.length + 2) = r := by
      rw [hr, show w.length + 2 = (w ++ [58, 32]).length by simp, List.drop_left]
    rw [e1, show i + s.length + 2 = i + (s.length + 2) by omega]
    unfold lnB2
    rw [hr]
theorem isL_at {B rest : List UInt8} {i : Nat} {w v : List UInt8} (h : B.drop i = lnB2 w v ++ rest) : isL B i w = true := by
  unfold isL
  rw [h]
  refine decide_eq_true ?_
  unfold lnB2
  rw [show w ++ [58, 32] ++ v ++ [13, 10] ++ rest = (w ++ [58, 32]) ++ (v ++ [13, 10] ++ rest) by simp, show w.length + 2 = (w ++ [58, 32]).length by simp, List.take_left]
theorem isL_not {B : List UInt8} {i : Nat} {w : List UInt8} (c : UInt8) (k : Nat) (hk : k < w.length + 2) (h : (B.drop i).getD k 0 ≠ (w ++ [58, 32]).getD k 0) : isL B i w = false := by
  unfold isL
  refine decide_eq_false fun x => h ?_
  rw [← x, List.getD_eq_getElem?_getD, List.getD_eq_getElem?_getD, List.getElem?_take_of_lt hk]
/-- a head line is no line of the length -/
theorem isL_hd {B rest n v : List UInt8} {i : Nat} (h : B.drop i = n ++ [58, 32] ++ v ++ [13, 10] ++ rest) (hn : ∀ x ∈ n, x ≠ 58) {w : List UInt8} (hw : ∀ x ∈ w, x ≠ 58) (hne : n ≠ w) : isL B i w = false := by
  unfold isL
  refine decide_eq_false fun x => hne ?_
  have h1 : Lib.indexByte (n ++ 58 :: (32 :: v ++ [13, 10] ++ rest)) 58 = n.length := by
    have : ∀ (n r : List UInt8), (∀ x ∈ n, x ≠ 58) → Lib.indexByte (n ++ 58 :: r) 58 = n.length := by
      intro n r hn
      induction n with
      | nil => simp [Lib.indexByte]
      | cons a t ih =>
        have ha := hn a (by simp)
        have := ih fun x hx => hn x (by simp [hx])
        simp only [List.cons_append, Lib.indexByte]
        rw [if_neg (by simpa using ha), this, if_neg (by first | (simp; done) | (simp; omega))]
        simp
    exact this _ _ hn
  have e1 : B.drop i = (w ++ [58, 32]) ++ (B.drop i).drop (w.length + 2) := by
    conv => lhs; rw [← List.take_append_drop (w.length + 2) (B.drop i), x]
  have h2 : Lib.indexByte (w ++ 58 :: (32 :: (B.drop i).drop (w.length + 2))) 58 = w.length := by
    have : ∀ (n r : List UInt8), (∀ x ∈ n, x ≠ 58) → Lib.indexByte (n ++ 58 :: r) 58 = n.length := by
      intro n r hn
      induction n with
      | nil => simp [Lib.indexByte]
      | cons a t ih =>
        have ha := hn a (by simp)
        have := ih fun x hx => hn x (by simp [hx])
        simp only [List.cons_append, Lib.indexByte]
        rw [if_neg (by simpa using ha), this, if_neg (by first | (simp; done) | (simp; omega))]
        simp
    exact this _ _ hw
  have e2 : n ++ 58 :: (32 :: v ++ [13, 10] ++ rest) = w ++ 58 :: (32 :: (B.drop i).drop (w.length + 2)) := by
    have ea : n ++ 58 :: (32 :: v ++ [13, 10] ++ rest) = B.drop i := by rw [h]; simp
    rw [ea]
    conv => lhs; rw [e1]
    simp
  rw [e2, h2] at h1
  have hl : n.length = w.length := by omega
  exact (List.append_inj e2 hl).1
theorem hds_back {B rest v : List UInt8} : ∀ (hds : List Hd) (k i : Nat) (out : List Hd), (∀ h ∈ hds, tokL h.name = true ∧ valueL h.value = true ∧ h.name ≠ wLng) → hds.length < k → B.drop i = headsB hds ++ (lnB2 wLng v ++ rest) → hdsR B k i out = (true, i + (headsB hds).length, out ++ hds)
  | [], k + 1, i, out, _, _, h => by
    have hl : isL B i [108, 101, 110, 103, 116, 104] = true := isL_at (w := wLng) (v := v) (rest := rest) (by rw [h]; simp [headsB])
    rw [hdsR, if_pos hl]
    simp [headsB]
  | x :: t, k + 1, i, out, hok, hk, h => by
    obtain ⟨ht, hv, hne'⟩ := hok x (by simp)
    simp only [tokL, valueL, Bool.and_eq_true, decide_eq_true_eq] at ht hv
    have hbare : bareL (x.name ++ [58, 32] ++ x.value) = true := by
      rw [bare_app, bare_app]
      have b1 : bareL x.name = true := all_imp ht.2 fun c hc => by have := tok_plain c hc; simp [this.1, this.2.1]
      have b2 : bareL x.value = true := all_imp hv.2 fun c hc => by have := val_plain c hc; simp [this.1, this.2]
      rw [b1, b2]; rfl
    have hn : ∀ y ∈ x.name, y ≠ 58 := fun y hy => (tok_plain y (List.all_eq_true.1 ht.2 y hy)).2.2.2
    have hne : x.name ≠ [] := fun e => by rw [e] at ht; simp at ht
    have h' : B.drop i = (x.name ++ [58, 32] ++ x.value) ++ [13, 10] ++ (headsB t ++ (lnB2 wLng v ++ rest)) := by rw [h]; simp [headsB, headB]
    have e : lineS (B.drop i) = some (x.name ++ [58, 32] ++ x.value) := by rw [h']; exact lineS_app _ _ hbare
    have hh := hd_app hn hne
    have e1 : lnB B i = true := by unfold lnB; rw [e]; rfl
    have e2 : lnS B i = x.name ++ [58, 32] ++ x.value := by unfold lnS; rw [e]; rfl
    have e3 : lnN B i = i + (headB x).length := by unfold lnN; rw [e]; simp [headB]; omega
    have hd : B.drop (i + (headB x).length) = headsB t ++ (lnB2 wLng v ++ rest) := by
      rw [← List.drop_drop, h, show headsB (x :: t) ++ (lnB2 wLng v ++ rest) = headB x ++ (headsB t ++ (lnB2 wLng v ++ rest)) by simp [headsB], List.drop_left]
    have hL : isL B i [108, 101, 110, 103, 116, 104] = false := isL_hd (n := x.name) (v := x.value) (rest := headsB t ++ (lnB2 wLng v ++ rest)) (by rw [h']) hn (by decide) hne'
    rw [hdsR, if_neg (by rw [hL]; simp), e1, e2, hh.1, if_pos (show (true && true) = true from rfl), hh.2, e3]
    have ih := hds_back t k (i + (headB x).length) (out ++ [x]) (fun y hy => hok y (by simp [hy])) (by simp at hk; omega) hd
    rw [ih]
    simp [headsB]; omega
theorem hds_inv {B : List UInt8} : ∀ (k i : Nat) (out : List Hd), (hdsR B k i out).1 = true → ∃ hs, (hdsR B k i out).2.2 = out ++ hs ∧ B.drop i = headsB hs ++ B.drop (hdsR B k i out).2.1 ∧ isL B (hdsR B k i out).2.1 wLng = true
  | 0, i, out, h => by simp [hdsR] at h
  | k + 1, i, out, h => by
    rw [hdsR] at h ⊢
    by_cases hL : isL B i [108, 101, 110, 103, 116, 104] = true
    · rw [if_pos hL]
      exact ⟨[], by simp, by simp [headsB], hL⟩
    · rw [if_neg hL] at h ⊢
      by_cases g : (lnB B i && hdB (lnS B i)) = true
      · rw [if_pos g] at h ⊢
        obtain ⟨hs, a1, a2, a3⟩ := hds_inv k _ _ h
        refine ⟨hdV (lnS B i) :: hs, by rw [a1]; simp, ?_, a3⟩
        clear a1 a3 h
        generalize (hdsR B k (lnN B i) (out ++ [hdV (lnS B i)])).2.1 = J at a2 ⊢
        simp only [Bool.and_eq_true] at g
        have g1 := g.1
        unfold lnB at g1
        cases e : lineS (B.drop i) with
        | none => rw [e] at g1; cases g1
        | some s =>
          have hi := lineS_inv e
          have es : lnS B i = s := by unfold lnS; rw [e]; rfl
          have en : lnN B i = i + (s.length + 2) := by unfold lnN; rw [e]; simp; omega
          rw [List.drop_drop, ← en, a2] at hi
          rw [hi]
          have := hd_inv g.2
          rw [es] at this
          rw [es]
          have e3 : headsB (hdV s :: hs) = ((hdV s).name ++ [58, 32] ++ (hdV s).value) ++ [13, 10] ++ headsB hs := by simp [headsB, headB]
          rw [e3, ← this]
          simp
      · rw [if_neg g] at h; cases h
theorem nm_bare {s : List UInt8} (h : nameL s = true) : bareL s = true := by
  unfold nameL at h
  simp only [Bool.and_eq_true] at h
  refine all_imp h.2 fun c hc => ?_
  have : nmB c = true → c ≠ 13 ∧ c ≠ 10 := by
    refine u8_all (P := fun c => nmB c = true → c ≠ 13 ∧ c ≠ 10) ?_ c
    decide +kernel
  simp [this hc]
theorem tg_bare {s : List UInt8} (h : targetL s = true) : bareL s = true := by
  unfold targetL at h
  simp only [Bool.and_eq_true] at h
  exact all_imp h.2 fun c hc => by have := tg_plain c hc; simp [this.1, this.2.1]
theorem dgt_bare {s : List UInt8} (h : s.all isDg = true) : bareL s = true := by
  refine all_imp h fun c hc => ?_
  have : isDg c = true → c ≠ 13 ∧ c ≠ 10 := by
    refine u8_all (P := fun c => isDg c = true → c ≠ 13 ∧ c ≠ 10) ?_ c
    decide +kernel
  simp [this hc]
theorem kindW_bare (k : Nat) : bareL (kindW.getD k []) = true := by
  by_cases h : k < 5
  · rcases (by omega : k = 0 ∨ k = 1 ∨ k = 2 ∨ k = 3 ∨ k = 4) with rfl | rfl | rfl | rfl | rfl <;> decide
  · rw [List.getD_eq_getElem?_getD, List.getElem?_eq_none (by simp [kindW]; omega)]; rfl
theorem hexT_dg (k : Nat) (h : k < 16) : dgC (hexT.getD k 0) = true := by
  rcases (by omega : k = 0 ∨ k = 1 ∨ k = 2 ∨ k = 3 ∨ k = 4 ∨ k = 5 ∨ k = 6 ∨ k = 7 ∨ k = 8 ∨ k = 9 ∨ k = 10 ∨ k = 11 ∨ k = 12 ∨ k = 13 ∨ k = 14 ∨ k = 15) with rfl | rfl | rfl | rfl | rfl | rfl | rfl | rfl | rfl | rfl | rfl | rfl | rfl | rfl | rfl | rfl <;> decide
theorem digest_dg (s : List UInt8) : dgB (digestL s) = true := by
  unfold dgB digestL
  rw [decide_eq_true (hex16_len _), Bool.true_and]
  unfold hex16
  rw [List.all_map, List.all_eq_true]
  intro j _
  exact hexT_dg _ (by omega)
theorem dgB_bare {s : List UInt8} (h : dgB s = true) : bareL s = true := by
  unfold dgB at h
  simp only [Bool.and_eq_true] at h
  refine all_imp h.2 fun c hc => ?_
  have : dgC c = true → c ≠ 13 ∧ c ≠ 10 := by
    refine u8_all (P := fun c => dgC c = true → c ≠ 13 ∧ c ≠ 10) ?_ c
    decide +kernel
  simp [this hc]
theorem getD_bare {l : List (List UInt8)} (h : ∀ w ∈ l, bareL w = true) (k : Nat) : bareL (l.getD k []) = true := by
  rw [List.getD_eq_getElem?_getD]
  by_cases hk : k < l.length
  · rw [List.getElem?_eq_getElem hk]; exact h _ (List.getElem_mem hk)
  · rw [List.getElem?_eq_none (by omega)]; rfl
theorem itoa_bare {n : Int} (h : 0 ≤ n) : bareL (Lib.itoa n) = true := by
  obtain ⟨k, rfl⟩ : ∃ k : Nat, n = k := ⟨n.toNat, by omega⟩
  rw [itoa_nat]
  exact dgt_bare (dec_dig k).1
theorem padded_bare {n k : Int} (h : 0 ≤ n) : bareL (paddedL n k) = true := by
  unfold paddedL
  rw [bare_app, itoa_bare h, Bool.and_true]
  generalize (max 0 (k - (Lib.itoa n).length)).toNat = m
  unfold bareL
  rw [List.all_eq_true]
  intro x hx
  have : x = 48 := by
    induction m with
    | zero => simp [Lib.repeatL] at hx
    | succ m ih =>
      simp only [Lib.repeatL, List.cons_append, List.nil_append, List.mem_cons] at hx
      rcases hx with hx | hx
      · exact hx
      · exact ih hx
  subst this; rfl
theorem date_bare {n : Int} (h0 : 0 ≤ n) (h1 : n ≤ 253402300799) : bareL (dateTextL n) = true := by
  obtain ⟨_, _, _, _, _, _, _, _, _, y1, _, d1, _⟩ := date_fields h0 h1
  unfold dateTextL
  simp only [bare_app, getD_bare (l := wdN) (by decide), getD_bare (l := mnN) (by decide), padded_bare (n := n / 86400 - daysI (yearI (n / 86400)) (monthI (n / 86400)) + 1) (by omega), padded_bare (n := yearI (n / 86400)) (by omega), padded_bare (n := n % 86400 / 3600) (by omega), padded_bare (n := n % 86400 / 60 % 60) (by omega), padded_bare (n := n % 86400 % 60) (by omega)]
  rfl
theorem rec_own {r : Rcd} (h : checkRecL r = 0) : ownL r.hd = false := by
  obtain ⟨h1, h2, h3, h4, h5, h6, h7, h8, h9, h10⟩ := rec_ok h
  have a1 : ¬ (r.ki < 1 ∨ 5 < r.ki) := by omega
  have a2 : nmR r := ⟨h3, h4⟩
  by_cases a3 : clR r
  · have := cr12 a1 a2 a3; omega
  · have := crR a1 a2 a3 ⟨h5, h6⟩ h7 (by omega) h9
    rw [this] at h
    cases ho : ownL r.hd with
    | false => rfl
    | true => rw [ho, if_pos rfl] at h; omega
theorem rec_heads {r : Rcd} (h : checkRecL r = 0) : ∀ x ∈ r.hd, tokL x.name = true ∧ valueL x.value = true ∧ x.name ≠ wLng := by
  intro x hx
  obtain ⟨h1, h2, h3, h4, h5, h6, h7, h8, h9, h10⟩ := rec_ok h
  have hm := heads_mem h9 x hx
  refine ⟨hm.1, hm.2, fun e => ?_⟩
  have := rec_own h
  unfold ownL at this
  rw [List.any_eq_false] at this
  have := this x hx
  rw [e] at this
  exact this (by decide)
theorem kind_back {k : Int} (h1 : 1 ≤ k) (h2 : k ≤ 5) : kindI (kindW.getD (k - 1).toNat []) = k := by
  rcases (by omega : k = 1 ∨ k = 2 ∨ k = 3 ∨ k = 4 ∨ k = 5) with rfl | rfl | rfl | rfl | rfl <;> decide
theorem len_back {n : Nat} (h : n ≤ 999999999) : digL (Lib.itoa n) 9 = true ∧ natOf (Lib.itoa n) = n ∧ bareL (Lib.itoa n) = true := by
  refine ⟨?_, ?_, itoa_bare (by omega)⟩
  · rw [itoa_nat]
    obtain ⟨d1, d2, d3, d4, _⟩ := dec_dig n
    have d5 := dec_len 8 n (by omega)
    unfold digL
    rw [d1, decide_eq_true d3, decide_eq_true (show ((Lib.decDigits n).length : Int) ≤ 9 by omega)]
    simp only [Bool.and_self, Bool.true_and, Bool.or_eq_true, decide_eq_true_eq, beq_iff_eq]
    by_cases e : (Lib.decDigits n).getD 0 0 = 48
    · right
      have hl := d4.resolve_left (fun x => x e)
      match hq : Lib.decDigits n, hl with
      | [c], _ => rw [hq] at e; simpa using e
    · left; exact e
  · rw [itoa_nat]; exact (dec_dig n).2.1
theorem stepR {B w v rest : List UInt8} {i : Nat} {acc : List UInt8 → Bool} (hd : B.drop i = lnB2 w v ++ rest) (hw : bareL w = true) (hv : bareL v = true) (ha : acc v = true) :
    lnR B i w acc = true ∧ lnA B i w acc = i + (lnB2 w v).length ∧ B.drop (i + (lnB2 w v).length) = rest ∧ lineOk B i w = true ∧ lineV B i w = v := by
  obtain ⟨h1, h2, h3, h4⟩ := line_at hd hw hv
  have hr : lnR B i w acc = true := by unfold lnR; rw [h1, h2, ha]; rfl
  exact ⟨hr, by unfold lnA; rw [if_pos hr, h3], h4, h1, h2⟩
theorem whole_at {B w rest : List UInt8} {i : Nat} (hd : B.drop i = w ++ [13, 10] ++ rest) (hw : bareL w = true) : wholeB B i w = true ∧ wholeA B i w = i + w.length + 2 ∧ B.drop (i + w.length + 2) = rest := by
  have e : lineS (B.drop i) = some w := by rw [hd]; exact lineS_app w rest hw
  have hb : wholeB B i w = true := by unfold wholeB lnB lnS; rw [e]; simp
  refine ⟨hb, ?_, ?_⟩
  · unfold wholeA
    rw [if_pos hb]
    unfold lnN
    rw [e]
  · rw [Nat.add_assoc, ← List.drop_drop, hd, show w.length + 2 = (w ++ [13, 10]).length by simp, List.drop_left]
theorem linesC_back {B q : List UInt8} {r : Rcd} (h : checkRecL r = 0) (pl : Nat) (ki ti ln : Int) (id ow ke dg : List UInt8) (hp : pl ≤ B.length)
    (hB : B.drop pl = lnB2 wKind (kindW.getD (r.ki - 1).toNat []) ++ (lnB2 wDate (dateTextL r.ti) ++ (lnB2 wKey r.ke ++ (headsB r.hd ++ (lnB2 wLng (Lib.itoa r.bd.length) ++ (lnB2 wDig (digestL r.bd) ++ ([] ++ [13, 10] ++ q))))))) :
    ∃ p : Nat, linesC B B.length ⟨pl, ki, id, ow, ti, ke, ln, dg⟩ = (true, ⟨p, r.ki, id, ow, r.ti, r.ke, r.bd.length, digestL r.bd⟩, r.hd) ∧ B.drop p = q ∧ p + q.length = B.length := by
  obtain ⟨k1, k2, k3, k4, k5, k6, k7, k8, k9, k10⟩ := rec_ok h
  obtain ⟨a1, a2, a3, a4, a5⟩ := stepR (acc := kindB) hB (by decide) (kindW_bare _) (by unfold kindB; rw [kind_back k1 k2]; exact decide_eq_true (by omega))
  obtain ⟨b1, b2, b3, b4, b5⟩ := stepR (acc := rdB) a3 (by decide) (date_bare k5 k6) (rdB_date k5 k6)
  obtain ⟨c1, c2, c3, c4, c5⟩ := stepR (acc := fun _ => true) b3 (by decide) (tg_bare k7) rfl
  obtain ⟨l1, l2, l3⟩ := len_back (n := r.bd.length) (by omega)
  have hlen := congrArg List.length hB
  have hge := headsB_ge r.hd
  simp only [List.length_append, List.length_drop] at hlen
  have d := hds_back r.hd (B.length + 1) _ [] (rec_heads h) (by omega) c3
  have d3 : B.drop (pl + (lnB2 wKind (kindW.getD (r.ki - 1).toNat [])).length + (lnB2 wDate (dateTextL r.ti)).length + (lnB2 wKey r.ke).length + (headsB r.hd).length) = (lnB2 wLng (Lib.itoa r.bd.length) ++ (lnB2 wDig (digestL r.bd) ++ ([] ++ [13, 10] ++ q))) := by rw [← List.drop_drop, c3, List.drop_left]
  obtain ⟨e1, e2, e3, e4, e5⟩ := stepR (acc := fun v => digL v 9) d3 (by decide) l3 l1
  obtain ⟨f1, f2, f3, f4, f5⟩ := stepR (acc := dgB) e3 (by decide) (dgB_bare (digest_dg r.bd)) (digest_dg r.bd)
  obtain ⟨g1, g2, g3⟩ := whole_at f3 rfl
  refine ⟨_, ?_, g3, ?_⟩
  · unfold linesC linesD
    dsimp only
    rw [if_neg (by rw [a1]; simp), a2, if_neg (by rw [b1]; simp), b2, if_neg (by rw [c1]; simp), c2, d]
    dsimp only
    rw [if_neg (by simp), if_neg (by rw [e1]; simp), e2, if_neg (by rw [f1]; simp), f2, g1, g2]
    rw [lnF_ok a4, lnF_ok b4, lnF_ok c4, lnF_ok e4, lnF_ok f4, a5, b5, c5, e5, f5, if_pos l1, l2, kind_back k1 k2]
    unfold rdV
    rw [if_pos (rdB_date k5 k6), momF_date k5 k6]
    simp
  · simp only [List.length_nil, List.length_cons] at hlen ⊢
    omega
theorem rec_split (r : Rcd) (q : List UInt8) : recB r ++ q = wKept0 ++ [13, 10] ++ (lnB2 wId r.id ++ ((if r.ow = [] then [] else lnB2 wOf r.ow) ++ (lnB2 wKind (kindW.getD (r.ki - 1).toNat []) ++ (lnB2 wDate (dateTextL r.ti) ++ (lnB2 wKey r.ke ++ (headsB r.hd ++ (lnB2 wLng (Lib.itoa r.bd.length) ++ (lnB2 wDig (digestL r.bd) ++ ([] ++ [13, 10] ++ (r.bd ++ crlf2 ++ q)))))))))) := by
  unfold recB recP recQ
  simp [wKept, wKept0, crlf2, wId, wOf, wKind, wDate, wKey, wLng, wDig]
/-- the reader over the lines of a record -/
theorem lines_back {B q : List UInt8} {r : Rcd} {a : Nat} (h : checkRecL r = 0) (ha : a ≤ B.length) (hB : B.drop a = recB r ++ q) : ∃ pl : Nat, linesL B B.length (rp0 a) = (true, ⟨pl, r.ki, r.id, r.ow, r.ti, r.ke, r.bd.length, digestL r.bd⟩, r.hd) ∧ B.drop pl = r.bd ++ crlf2 ++ q ∧ pl + (r.bd ++ crlf2 ++ q).length = B.length := by
  obtain ⟨k1, k2, k3, k4, k5, k6, k7, k8, k9, k10⟩ := rec_ok h
  have hlen := congrArg List.length hB
  rw [rec_split] at hB
  obtain ⟨a1, a2, a3⟩ := whole_at hB (by decide)
  obtain ⟨b1, b2, b3, b4, b5⟩ := stepR (acc := fun _ => true) a3 (by decide) (nm_bare k3) rfl
  have hp2 : a + wKept0.length + 2 + (lnB2 wId r.id).length ≤ B.length := by
    have := congrArg List.length hB
    simp only [List.length_append, List.length_drop, List.length_cons, List.length_nil] at this
    omega
  unfold linesL rp0
  dsimp only
  by_cases ho : r.ow = []
  · rw [if_pos ho, List.nil_append] at b3
    have hL : isL B (a + wKept0.length + 2 + (lnB2 wId r.id).length) wOf = false := by
      refine isL_not 0 0 (by simp [wOf]) ?_
      rw [b3]
      simp [lnB2, wKind, wOf]
    obtain ⟨p, c1, c2, c3⟩ := linesC_back h (a + wKept0.length + 2 + (lnB2 wId r.id).length) 0 0 0 r.id [] [] [] hp2 b3
    refine ⟨p, ?_, c2, c3⟩
    rw [if_neg (by rw [a1]; simp), a2, if_neg (by rw [b1]; simp), b2, if_neg (by rw [hL]; simp), lnF_ok b4, b5, c1, ho]
  · rw [if_neg ho] at b3
    obtain ⟨d1, d2, d3, d4, d5⟩ := stepR (acc := ofB) b3 (by decide) (nm_bare (k4.resolve_left ho)) (by unfold ofB; simpa using ho)
    have hL := isL_at b3
    have hp3 : a + wKept0.length + 2 + (lnB2 wId r.id).length + (lnB2 wOf r.ow).length ≤ B.length := by
      have := congrArg List.length b3
      simp only [List.length_append, List.length_drop] at this
      have : 2 ≤ (lnB2 wKind (kindW.getD (r.ki - 1).toNat [])).length := by
        unfold lnB2
        simp only [List.length_append, List.length_cons, List.length_nil]
        omega
      omega
    obtain ⟨p, c1, c2, c3⟩ := linesC_back h (a + wKept0.length + 2 + (lnB2 wId r.id).length + (lnB2 wOf r.ow).length) 0 0 0 r.id r.ow [] [] hp3 d3
    refine ⟨p, ?_, c2, c3⟩
    rw [if_neg (by rw [a1]; simp), a2, if_neg (by rw [b1]; simp), b2, if_pos hL, if_neg (by rw [d1]; simp), d2, lnF_ok b4, b5, lnF_ok d4, d5, c1]
/-- a record is read as it was written -/
theorem rd_back {B q : List UInt8} {r : Rcd} {a : Nat} (h : checkRecL r = 0) (ha : a ≤ B.length) (hB : B.drop a = recB r ++ q) : rdOne B a = (r, ((a + (recB r).length : Nat) : Int), 0) := by
  obtain ⟨pl, e, e2, e3⟩ := lines_back h ha hB
  have hlen := congrArg List.length hB
  simp only [List.length_append, List.length_drop] at hlen e3
  have h4 : crlf2.length = 4 := rfl
  have hb : ((B.drop pl).take r.bd.length) = r.bd := by rw [e2, List.append_assoc, List.take_left]
  have hc : (B.drop (pl + r.bd.length)).take 4 = crlf2 := by
    rw [← List.drop_drop, e2, List.append_assoc, List.drop_left]
    exact List.take_left (l₁ := crlf2)
  unfold rdOne
  rw [e]
  dsimp only
  rw [if_neg (by simp), if_neg (by omega), show (((pl : Nat) : Int) + (r.bd.length : Nat)).toNat = pl + r.bd.length by omega, hc, if_neg (by simp), Int.toNat_natCast, hb, if_neg (by simp), if_neg (by simpa using h)]
  refine Prod.ext rfl (Prod.ext ?_ rfl)
  show (pl : Int) + (r.bd.length : Nat) + 4 = ((a + (recB r).length : Nat) : Int)
  omega

/- what was read is written so -/
theorem stepI {B w : List UInt8} {i : Nat} {acc : List UInt8 → Bool} (h : lnR B i w acc = true) : B.drop i = lnB2 w (lineV B i w) ++ B.drop (lnA B i w acc) ∧ acc (lineV B i w) = true ∧ lineOk B i w = true := by
  obtain ⟨h1, h2, h3⟩ := lnR_ok h
  rw [h3]
  exact ⟨line_inv h1, h2, h1⟩
theorem wholeI {B w : List UInt8} {i : Nat} (h : wholeB B i w = true) : B.drop i = w ++ [13, 10] ++ B.drop (wholeA B i w) := by
  unfold wholeA
  rw [if_pos h]
  unfold wholeB at h
  simp only [Bool.and_eq_true, beq_iff_eq] at h
  obtain ⟨h1, h2⟩ := h
  unfold lnB at h1
  cases e : lineS (B.drop i) with
  | none => rw [e] at h1; cases h1
  | some s =>
    have hi := lineS_inv e
    unfold lnN
    unfold lnS at h2
    rw [e] at h2 ⊢
    simp only [Option.getD_some] at h2 ⊢
    rw [List.drop_drop] at hi
    rw [hi, h2, show i + w.length + 2 = i + (w.length + 2) by omega]
theorem kindI_wd {v : List UInt8} (h : kindB v = true) : kindW.getD (kindI v - 1).toNat [] = v := by
  unfold kindB kindI at *
  have h := of_decide_eq_true h
  unfold idxL at *
  cases e : kindW.findIdx? (· == v) with
  | none => rw [e] at h; simp at h
  | some k =>
    rw [List.findIdx?_eq_some_iff_getElem] at e
    obtain ⟨hk, h2, _⟩ := e
    have h2 : kindW[k] = v := by simpa using h2
    show kindW.getD ((k : Int) + 1 - 1).toNat [] = v
    rw [show ((k : Int) + 1 - 1).toNat = k by omega, List.getD_eq_getElem?_getD, List.getElem?_eq_getElem hk]
    exact h2
theorem rdB_text {v : List UInt8} (h : rdB v = true) : dateTextL (rdV v) = v := by
  unfold rdV
  rw [if_pos h]
  unfold rdB at h
  exact (of_decide_eq_true h).2.2
theorem digL_text {v : List UInt8} (h : digL v 9 = true) : Lib.itoa ((natOf v : Nat) : Int) = v := by
  obtain ⟨h1, _, h3, h4⟩ := digL_all h
  rw [itoa_nat]
  exact dec_natOf h3 h1 (h4.imp id fun e => by rw [e]; rfl)
/-- from the kind on -/
theorem linesC_inv {B : List UInt8} {n : Nat} {x : Rp} (h : (linesC B n x).1 = true) :
    (linesC B n x).2.1.id = x.id ∧ (linesC B n x).2.1.ow = x.ow ∧ 0 ≤ (linesC B n x).2.1.ln ∧
    B.drop x.pl = lnB2 wKind (kindW.getD ((linesC B n x).2.1.ki - 1).toNat []) ++ (lnB2 wDate (dateTextL (linesC B n x).2.1.ti) ++ (lnB2 wKey (linesC B n x).2.1.ke ++ (headsB (linesC B n x).2.2 ++ (lnB2 wLng (Lib.itoa (linesC B n x).2.1.ln) ++ (lnB2 wDig (linesC B n x).2.1.dg ++ ([] ++ [13, 10] ++ B.drop (linesC B n x).2.1.pl)))))) := by
  unfold linesC at h ⊢
  dsimp only at h ⊢
  by_cases h1 : lnR B x.pl wKind kindB = false
  · rw [if_pos h1] at h; cases h
  rw [if_neg h1] at h ⊢
  obtain ⟨a1, a2, a3⟩ := stepI (by simpa using h1)
  generalize hp1 : lnA B x.pl wKind kindB = p1 at *
  by_cases h2 : lnR B p1 wDate rdB = false
  · rw [if_pos h2] at h; cases h
  rw [if_neg h2] at h ⊢
  obtain ⟨b1, b2, b3⟩ := stepI (by simpa using h2)
  generalize hp2 : lnA B p1 wDate rdB = p2 at *
  by_cases h3 : lnR B p2 wKey (fun _ => true) = false
  · rw [if_pos h3] at h; cases h
  rw [if_neg h3] at h ⊢
  obtain ⟨c1, c2, c3⟩ := stepI (acc := fun _ => true) (by simpa using h3)
  generalize hp3 : lnA B p2 wKey (fun _ => true) = p3 at *
  by_cases h4 : (hdsR B (n + 1) p3 []).1 = false
  · rw [if_pos h4] at h; cases h
  rw [if_neg h4] at h ⊢
  obtain ⟨hs, d1, d2, d3⟩ := hds_inv (n + 1) p3 [] (by simpa using h4)
  rw [List.nil_append] at d1
  rw [d1] at h ⊢
  generalize (hdsR B (n + 1) p3 []).2.1 = p4 at *
  unfold linesD at h ⊢
  dsimp only at h ⊢
  by_cases h5 : lnR B p4 wLng (fun v => digL v 9) = false
  · rw [if_pos h5] at h; cases h
  rw [if_neg h5] at h ⊢
  obtain ⟨e1, e2, e3⟩ := stepI (acc := fun v => digL v 9) (by simpa using h5)
  generalize hp5 : lnA B p4 wLng (fun v => digL v 9) = p5 at *
  by_cases h6 : lnR B p5 wDig dgB = false
  · rw [if_pos h6] at h; cases h
  rw [if_neg h6] at h ⊢
  obtain ⟨f1, f2, f3⟩ := stepI (by simpa using h6)
  generalize hp6 : lnA B p5 wDig dgB = p6 at *
  have g := wholeI h
  rw [lnF_ok a3, lnF_ok b3, lnF_ok c3, lnF_ok e3, lnF_ok f3]
  dsimp only at e2 ⊢
  rw [if_pos e2]
  refine ⟨rfl, rfl, by omega, ?_⟩
  rw [kindI_wd a2, rdB_text b2, digL_text e2, ← g, ← f1, ← e1, ← d2, ← c1, ← b1]
  exact a1
theorem linesL_inv {B : List UInt8} {n a : Nat} (h : (linesL B n (rp0 a)).1 = true) :
    0 ≤ (linesL B n (rp0 a)).2.1.ln ∧
    B.drop a = wKept0 ++ [13, 10] ++ (lnB2 wId (linesL B n (rp0 a)).2.1.id ++ ((if (linesL B n (rp0 a)).2.1.ow = [] then [] else lnB2 wOf (linesL B n (rp0 a)).2.1.ow) ++ (lnB2 wKind (kindW.getD ((linesL B n (rp0 a)).2.1.ki - 1).toNat []) ++ (lnB2 wDate (dateTextL (linesL B n (rp0 a)).2.1.ti) ++ (lnB2 wKey (linesL B n (rp0 a)).2.1.ke ++ (headsB (linesL B n (rp0 a)).2.2 ++ (lnB2 wLng (Lib.itoa (linesL B n (rp0 a)).2.1.ln) ++ (lnB2 wDig (linesL B n (rp0 a)).2.1.dg ++ ([] ++ [13, 10] ++ B.drop (linesL B n (rp0 a)).2.1.pl))))))))) := by
  unfold linesL at h ⊢
  dsimp only at h ⊢
  by_cases h1 : wholeB B (rp0 a).pl wKept0 = false
  · rw [if_pos h1] at h; cases h
  rw [if_neg h1] at h ⊢
  have a1 := wholeI (by simpa using h1)
  generalize hp1 : wholeA B (rp0 a).pl wKept0 = p1 at *
  by_cases h2 : lnR B p1 wId (fun _ => true) = false
  · rw [if_pos h2] at h; cases h
  rw [if_neg h2] at h ⊢
  obtain ⟨b1, b2, b3⟩ := stepI (acc := fun _ => true) (by simpa using h2)
  generalize hp2 : lnA B p1 wId (fun _ => true) = p2 at *
  by_cases h3 : isL B p2 wOf = true
  · rw [if_pos h3] at h ⊢
    by_cases h4 : lnR B p2 wOf ofB = false
    · rw [if_pos h4] at h; cases h
    rw [if_neg h4] at h ⊢
    obtain ⟨c1, c2, c3⟩ := stepI (by simpa using h4)
    obtain ⟨d1, d2, d3, d4⟩ := linesC_inv h
    dsimp only at d1 d2 d4
    rw [d1, d2]
    refine ⟨d3, ?_⟩
    rw [← d4, lnF_ok b3, lnF_ok c3, if_neg (by unfold ofB at c2; simpa using c2), ← c1, ← b1]
    exact a1
  · rw [if_neg h3] at h ⊢
    obtain ⟨d1, d2, d3, d4⟩ := linesC_inv h
    dsimp only at d1 d2 d4
    rw [d1, d2]
    refine ⟨d3, ?_⟩
    rw [← d4, lnF_ok b3]
    show B.drop a = wKept0 ++ [13, 10] ++ (lnB2 wId (lineV B p1 wId) ++ ([] ++ B.drop p2))
    rw [List.nil_append, ← b1]
    exact a1
/-- what was read without an error stood there, as it is written -/
theorem rd_inv {B : List UInt8} {a : Nat} (ha : a ≤ B.length) (h : (rdOne B a).2.2 = 0) : ∃ k : Nat, (rdOne B a).2.1 = k ∧ k ≤ B.length ∧ a < k ∧ checkRecL (rdOne B a).1 = 0 ∧ B.drop a = recB (rdOne B a).1 ++ B.drop k ∧ k = a + (recB (rdOne B a).1).length := by
  have lk := (linesL_ok (B := B) (rp0_ok (n := B.length) (a := a) ha)).1
  unfold rdOne at h ⊢
  dsimp only at h ⊢
  by_cases h1 : (linesL B B.length (rp0 a)).1 = false
  · rw [if_pos h1] at h; cases h
  rw [if_neg h1] at h ⊢
  obtain ⟨l0, li⟩ := linesL_inv (by simpa using h1)
  generalize linesL B B.length (rp0 a) = L at *
  obtain ⟨ok, ⟨pl, ki, id, ow, ti, ke, ln, dg⟩, hs⟩ := L
  have lp : pl ≤ B.length := lk.pl
  clear lk
  dsimp only at l0 li h ⊢
  obtain ⟨ln, rfl⟩ : ∃ k : Nat, ln = k := ⟨ln.toNat, by omega⟩
  rw [show ((pl : Int) + (ln : Int)).toNat = pl + ln by omega] at h ⊢
  rw [Int.toNat_natCast] at h ⊢
  by_cases h2 : (B.length : Int) < (pl : Int) + ln + 4
  · rw [if_pos h2] at h; cases h
  rw [if_neg h2] at h ⊢
  by_cases h3 : (B.drop (pl + ln)).take 4 ≠ crlf2
  · rw [if_pos h3] at h; cases h
  rw [if_neg h3] at h ⊢
  by_cases h4 : digestL ((B.drop pl).take ln) ≠ dg
  · rw [if_pos h4] at h; cases h
  rw [if_neg h4] at h ⊢
  by_cases h5 : checkRecL ⟨ki, id, ow, ti, ke, hs, (B.drop pl).take ln⟩ ≠ 0
  · rw [if_pos h5] at h; exact (h5 h).elim
  rw [if_neg h5]
  have h3 : (B.drop (pl + ln)).take 4 = crlf2 := by simpa using h3
  have h4 : digestL ((B.drop pl).take ln) = dg := by simpa using h4
  have hb : ((B.drop pl).take ln).length = ln := by rw [List.length_take, List.length_drop]; omega
  have e1 : B.drop pl = ((B.drop pl).take ln ++ crlf2) ++ B.drop (pl + ln + 4) := by
    rw [List.append_assoc, ← h3, ← List.drop_drop (i := 4), List.take_append_drop, ← List.drop_drop (i := ln), List.take_append_drop]
  have key : B.drop a = recB ⟨ki, id, ow, ti, ke, hs, (B.drop pl).take ln⟩ ++ B.drop (pl + ln + 4) := by
    rw [rec_split]
    dsimp only
    rw [hb, h4, ← e1]
    exact li
  have hl := congrArg List.length key
  simp only [List.length_append, List.length_drop] at hl
  have hpos : 4 ≤ (recB ⟨ki, id, ow, ti, ke, hs, (B.drop pl).take ln⟩).length := by
    unfold recB
    simp only [List.length_append, List.length_cons, List.length_nil]
    omega
  dsimp only
  exact ⟨pl + ln + 4, by show (pl : Int) + ln + 4 = ((pl + ln + 4 : Nat) : Int); omega, by omega, by omega, by simpa using h5, key, by omega⟩

/- a file is read as it was written, and what was read is written so -/
def marksL : Nat → List Rcd → List Mk
  | _, [] => []
  | a, r :: t => ⟨r.id, a, ((a + (recB r).length : Nat) : Int)⟩ :: marksL (a + (recB r).length) t
theorem recB_pos (r : Rcd) : 4 ≤ (recB r).length := by
  unfold recB
  simp only [List.length_append, List.length_cons, List.length_nil]
  omega
theorem rf_back {B : List UInt8} : ∀ (k a : Nat) (l t : List Rcd) (m : List Mk), a ≤ B.length → B.drop a = fileB t → (∀ r ∈ t, checkRecL r = 0) → checkFileL (l ++ t) = 0 → t.length < k → rfGo B k a l m = (l ++ t, m ++ marksL a t, 0, 0)
  | k + 1, a, l, [], m, ha, hd, hc, hf, hk => by
    have : B.length ≤ a := by simpa [fileB] using hd
    rw [List.append_nil] at hf
    rw [rfGo, if_neg (by omega), if_pos hf]
    simp [marksL]
  | k + 1, a, l, r :: t, m, ha, hd, hc, hf, hk => by
    have h1 := hc r (by simp)
    have hb := rd_back h1 ha (q := fileB t) (by rw [hd, fileB])
    have hl := congrArg List.length hd
    simp only [fileB, List.length_append, List.length_drop] at hl
    have hp := recB_pos r
    rw [rfGo, if_pos (by omega), hb]
    dsimp only
    rw [if_pos rfl, Int.toNat_natCast]
    have hd2 : B.drop (a + (recB r).length) = fileB t := by rw [← List.drop_drop, hd, fileB, List.drop_left]
    rw [rf_back k (a + (recB r).length) (l ++ [r]) t _ (by omega) hd2 (fun x hx => hc x (by simp [hx])) (by simpa using hf) (by simp at hk; omega)]
    simp [marksL]
theorem rf_err {B : List UInt8} : ∀ (k a : Nat) (l : List Rcd) (m : List Mk), (rfGo B k a l m).2.2.2 ≠ 0 → (rfGo B k a l m).1 = []
  | 0, a, l, m, h => rfl
  | k + 1, a, l, m, h => by
    rw [rfGo] at h ⊢
    by_cases h1 : a < B.length
    · rw [if_pos h1] at h ⊢
      by_cases h2 : (rdOne B a).2.2 = 0
      · rw [if_pos h2] at h ⊢; exact rf_err k _ _ _ h
      · rw [if_neg h2]
    · rw [if_neg h1] at h ⊢
      by_cases h2 : checkFileL l = 0
      · rw [if_pos h2] at h; exact (h rfl).elim
      · rw [if_neg h2]
theorem rf_inv {B : List UInt8} (hB : B.length ≤ 500000) : ∀ (k a : Nat) (l : List Rcd) (m : List Mk), a ≤ B.length → B.length - a < k → (rfGo B k a l m).2.2.2 = 0 → ∃ t, (rfGo B k a l m).1 = l ++ t ∧ B.drop a = fileB t ∧ checkFileL (l ++ t) = 0 ∧ ∀ r ∈ t, recOk r
  | k + 1, a, l, m, ha, hk, h => by
    rw [rfGo] at h ⊢
    by_cases h1 : a < B.length
    · rw [if_pos h1] at h ⊢
      by_cases h2 : (rdOne B a).2.2 = 0
      · rw [if_pos h2] at h ⊢
        obtain ⟨n, e1, e2, e3, e4, e5, e6⟩ := rd_inv ha h2
        have hok := (rdOne_fit hB ha).1
        rw [e1, Int.toNat_natCast] at h ⊢
        obtain ⟨t, t1, t2, t3, t4⟩ := rf_inv hB k n _ _ e2 (by omega) h
        refine ⟨(rdOne B a).1 :: t, by rw [t1]; simp, by rw [e5, t2, fileB], by rw [← t3]; simp, fun r hr => ?_⟩
        rcases List.mem_cons.1 hr with rfl | hr
        · exact hok
        · exact t4 r hr
      · rw [if_neg h2] at h; exact (h2 h).elim
    · rw [if_neg h1] at h ⊢
      by_cases h2 : checkFileL l = 0
      · rw [if_pos h2]
        exact ⟨[], by simp, by rw [List.drop_eq_nil_of_le (by omega)]; rfl, by simpa using h2, fun r hr => by cases hr⟩
      · rw [if_neg h2] at h; exact (h2 h).elim
theorem fileB_ge : ∀ (l : List Rcd), l.length ≤ (fileB l).length
  | [] => Nat.le_refl _
  | r :: t => by
    have := fileB_ge t
    have := recB_pos r
    simp only [fileB, List.length_append, List.length_cons]
    omega
theorem file_back {l : List Rcd} (h : checkFileL l = 0) : readFileL (fileB l) = (l, marksL 0 l, 0, 0) := by
  obtain ⟨a1, a2, a3⟩ := file_ok h
  have := fileB_ge l
  unfold readFileL
  rw [if_neg (by omega), rf_back ((fileB l).length + 1) 0 [] l [] (Nat.zero_le _) rfl a1 (by simpa using h) (by omega)]
  simp
theorem file_inv {B : List UInt8} (h : (readFileL B).2.2.2 = 0) : checkFileL (readFileL B).1 = 0 ∧ fileB (readFileL B).1 = B ∧ recsOk (readFileL B).1 := by
  unfold readFileL at h ⊢
  by_cases hB : 500000 < B.length
  · rw [if_pos hB] at h; cases h
  rw [if_neg hB] at h ⊢
  obtain ⟨t, t1, t2, t3, t4⟩ := rf_inv (by omega) (B.length + 1) 0 [] [] (Nat.zero_le _) (by omega) h
  rw [List.nil_append] at t1 t3
  rw [t1]
  exact ⟨t3, t2.symm, t4⟩
theorem file_err {B : List UInt8} (h : (readFileL B).2.2.2 ≠ 0) : (readFileL B).1 = [] := by
  unfold readFileL at h ⊢
  by_cases hB : 500000 < B.length
  · rw [if_pos hB]
  · rw [if_neg hB] at h ⊢; exact rf_err _ _ _ _ h

/- a record one of whose block's bytes is another is not read -/
theorem xor_nat (a : Int) (c : UInt8) (h0 : 0 ≤ a) (h1 : a < 18446744073709551616) : bitsI .xor .u64 a (c.toNat % 18446744073709551616) = ((BitVec.ofNat 64 a.toNat ^^^ BitVec.ofNat 64 c.toNat).toNat : Int) := by
  obtain ⟨u, rfl⟩ : ∃ u : Nat, a = u := ⟨a.toNat, by omega⟩
  have hc := UInt8.toNat_lt c
  show IntKind.u64.wrap (((BitVec.ofInt 64 (u : Int) ^^^ BitVec.ofInt 64 ((c.toNat : Int) % 18446744073709551616) : BitVec 64).toNat : Nat) : Int) = _
  rw [show (c.toNat : Int) % 18446744073709551616 = (c.toNat : Int) by omega, BitVec.ofInt_natCast, BitVec.ofInt_natCast, wrap_u64, Int.toNat_natCast]
  have := (BitVec.ofNat 64 u ^^^ BitVec.ofNat 64 c.toNat).isLt
  omega
theorem mul_inj' (M P x y : Nat) (hc : Nat.Coprime M P) (h2 : x < M) (hle : y ≤ x) (h : x * P % M = y * P % M) : x = y := by
  have e := Nat.sub_mod_eq_zero_of_mod_eq h
  rw [← Nat.sub_mul] at e
  have d : M ∣ (x - y) * P := Nat.dvd_of_mod_eq_zero e
  have d2 := Nat.Coprime.dvd_of_dvd_mul_right hc d
  have := Nat.eq_zero_of_dvd_of_lt d2 (by omega)
  omega
theorem mul_injI (M P x y : Nat) (hc : Nat.Coprime M P) (h1 : x < M) (h2 : y < M) (h : (x : Int) * (P : Nat) % (M : Nat) = (y : Int) * (P : Nat) % (M : Nat)) : x = y := by
  have h' : x * P % M = y * P % M := by exact_mod_cast h
  rcases Nat.le_total y x with hle | hle
  · exact mul_inj' M P x y hc h1 hle h'
  · exact (mul_inj' M P y x hc h2 hle h'.symm).symm
theorem cop64 : Nat.Coprime 18446744073709551616 1099511628211 := by decide +kernel
theorem mul_inj (x y : Nat) (h1 : x < 18446744073709551616) (h2 : y < 18446744073709551616) (h : (x : Int) * 1099511628211 % 18446744073709551616 = (y : Int) * 1099511628211 % 18446744073709551616) : x = y := mul_injI 18446744073709551616 1099511628211 x y cop64 h1 h2 h
theorem mixS_inj {a b : Int} {c d : UInt8} (a0 : 0 ≤ a) (a1 : a < 18446744073709551616) (b0 : 0 ≤ b) (b1 : b < 18446744073709551616) (h : mixS a c = mixS b d) : BitVec.ofNat 64 a.toNat ^^^ BitVec.ofNat 64 c.toNat = BitVec.ofNat 64 b.toNat ^^^ BitVec.ofNat 64 d.toNat := by
  unfold mixS at h
  rw [xor_nat a c a0 a1, xor_nat b d b0 b1] at h
  have h1 := (BitVec.ofNat 64 a.toNat ^^^ BitVec.ofNat 64 c.toNat).isLt
  have h2 := (BitVec.ofNat 64 b.toNat ^^^ BitVec.ofNat 64 d.toNat).isLt
  apply BitVec.eq_of_toNat_eq
  generalize (BitVec.ofNat 64 a.toNat ^^^ BitVec.ofNat 64 c.toNat).toNat = x at *
  generalize (BitVec.ofNat 64 b.toNat ^^^ BitVec.ofNat 64 d.toNat).toNat = y at *
  exact mul_inj x y h1 h2 h
theorem mixS_state {a b : Int} {c : UInt8} (a0 : 0 ≤ a) (a1 : a < 18446744073709551616) (b0 : 0 ≤ b) (b1 : b < 18446744073709551616) (h : mixS a c = mixS b c) : a = b := by
  have e := congrArg (· ^^^ BitVec.ofNat 64 c.toNat) (mixS_inj a0 a1 b0 b1 h)
  simp only [BitVec.xor_assoc, BitVec.xor_self, BitVec.xor_zero] at e
  have e2 := congrArg BitVec.toNat e
  rw [BitVec.toNat_ofNat, BitVec.toNat_ofNat] at e2
  omega
theorem mixS_byte {a : Int} {c d : UInt8} (a0 : 0 ≤ a) (a1 : a < 18446744073709551616) (h : mixS a c = mixS a d) : c = d := by
  have e := congrArg (BitVec.ofNat 64 a.toNat ^^^ ·) (mixS_inj a0 a1 a0 a1 h)
  simp only [← BitVec.xor_assoc, BitVec.xor_self, BitVec.zero_xor] at e
  have e2 := congrArg BitVec.toNat e
  rw [BitVec.toNat_ofNat, BitVec.toNat_ofNat] at e2
  have := UInt8.toNat_lt c
  have := UInt8.toNat_lt d
  exact UInt8.toNat_inj.1 (by omega)
theorem mixS_b (a : Int) (c : UInt8) : 0 ≤ mixS a c ∧ mixS a c < 18446744073709551616 := by unfold mixS; omega
theorem mix_fold : ∀ (s : List UInt8) (a b : Int), 0 ≤ a → a < 18446744073709551616 → 0 ≤ b → b < 18446744073709551616 → s.foldl mixS a = s.foldl mixS b → a = b
  | [], a, b, _, _, _, _, h => h
  | c :: s, a, b, a0, a1, b0, b1, h => by
    rw [List.foldl_cons, List.foldl_cons] at h
    have := mix_fold s _ _ (mixS_b a c).1 (mixS_b a c).2 (mixS_b b c).1 (mixS_b b c).2 h
    exact mixS_state a0 a1 b0 b1 this
theorem mixL_ne {u v : List UInt8} {c d : UInt8} (h : mixL (u ++ c :: v) = mixL (u ++ d :: v)) : c = d := by
  unfold mixL at h
  rw [List.foldl_append, List.foldl_append, List.foldl_cons, List.foldl_cons] at h
  have hb := mix_b u
  unfold mixL at hb
  have := mix_fold v _ _ (mixS_b _ c).1 (mixS_b _ c).2 (mixS_b _ d).1 (mixS_b _ d).2 h
  exact mixS_byte hb.1 hb.2 this
theorem hexT_inj : ∀ a b : Nat, a < 16 → b < 16 → hexT.getD a 0 = hexT.getD b 0 → a = b := by
  have key : ∀ a : Fin 16, ∀ b : Fin 16, hexT.getD a.1 0 = hexT.getD b.1 0 → a = b := by decide
  intro a b ha hb h
  exact congrArg Fin.val (key ⟨a, ha⟩ ⟨b, hb⟩ h)
theorem hex16_at {n : Int} (j : Nat) (h : j < 16) : (hex16 n).getD j 0 = hexT.getD ((n / 16 ^ (15 - j)) % 16).toNat 0 := by
  unfold hex16
  rw [List.getD_eq_getElem?_getD, List.getElem?_map, List.getElem?_range h]
  rfl
theorem digsE (a b : Nat) : ∀ k, a / 16 ^ k = b / 16 ^ k → (∀ j, j < k → (a / 16 ^ j) % 16 = (b / 16 ^ j) % 16) → a = b
  | 0, h, _ => by simpa using h
  | k + 1, h, hd => by
    refine digsE a b k ?_ fun j hj => hd j (by omega)
    have e := hd k (by omega)
    rw [Nat.pow_succ, ← Nat.div_div_eq_div_mul, ← Nat.div_div_eq_div_mul] at h
    omega
theorem dig_nat (u j : Nat) : (((u : Int) / 16 ^ j) % 16).toNat = (u / 16 ^ j) % 16 := by
  have : ((u : Int) / 16 ^ j) % 16 = (((u / 16 ^ j) % 16 : Nat) : Int) := by norm_cast
  rw [this, Int.toNat_natCast]
theorem hex16_inj {a b : Int} (a0 : 0 ≤ a) (a1 : a < 18446744073709551616) (b0 : 0 ≤ b) (b1 : b < 18446744073709551616) (h : hex16 a = hex16 b) : a = b := by
  obtain ⟨u, rfl⟩ : ∃ u : Nat, a = u := ⟨a.toNat, by omega⟩
  obtain ⟨v, rfl⟩ : ∃ v : Nat, b = v := ⟨b.toNat, by omega⟩
  congr 1
  refine digsE u v 16 ?_ fun j hj => ?_
  · rw [Nat.div_eq_of_lt (by omega), Nat.div_eq_of_lt (by omega)]
  · have e : (hex16 (u : Int)).getD (15 - j) 0 = (hex16 (v : Int)).getD (15 - j) 0 := by rw [h]
    rw [hex16_at _ (by omega), hex16_at _ (by omega), dig_nat, dig_nat, show 15 - (15 - j) = j by omega] at e
    exact hexT_inj _ _ (Nat.mod_lt _ (by omega)) (Nat.mod_lt _ (by omega)) e
theorem digest_ne {u v : List UInt8} {c d : UInt8} (h : digestL (u ++ c :: v) = digestL (u ++ d :: v)) : c = d := by
  unfold digestL at h
  have h1 := mix_b (u ++ c :: v)
  have h2 := mix_b (u ++ d :: v)
  exact mixL_ne (hex16_inj h1.1 h1.2 h2.1 h2.2 h)
/-- the reader over the lines of a record, whatever stands behind them -/
def lnsB (r : Rcd) (q : List UInt8) : List UInt8 := wKept0 ++ [13, 10] ++ (lnB2 wId r.id ++ ((if r.ow = [] then [] else lnB2 wOf r.ow) ++ (lnB2 wKind (kindW.getD (r.ki - 1).toNat []) ++ (lnB2 wDate (dateTextL r.ti) ++ (lnB2 wKey r.ke ++ (headsB r.hd ++ (lnB2 wLng (Lib.itoa r.bd.length) ++ (lnB2 wDig (digestL r.bd) ++ ([] ++ [13, 10] ++ q)))))))))
theorem recB_lns (r : Rcd) (q : List UInt8) : recB r ++ q = lnsB r (r.bd ++ crlf2 ++ q) := rec_split r q
theorem lnsB_app (r : Rcd) (q : List UInt8) : lnsB r q = lnsB r [] ++ q := by
  unfold lnsB
  simp only [List.append_assoc, List.append_nil]
theorem lines_hdr {B q : List UInt8} {r : Rcd} {a : Nat} (h : checkRecL r = 0) (ha : a ≤ B.length) (hB : B.drop a = lnsB r q) : ∃ pl : Nat, linesL B B.length (rp0 a) = (true, ⟨pl, r.ki, r.id, r.ow, r.ti, r.ke, r.bd.length, digestL r.bd⟩, r.hd) ∧ B.drop pl = q ∧ pl + q.length = B.length := by
  obtain ⟨k1, k2, k3, k4, k5, k6, k7, k8, k9, k10⟩ := rec_ok h
  have hlen := congrArg List.length hB
  unfold lnsB at hB
  obtain ⟨a1, a2, a3⟩ := whole_at hB (by decide)
  obtain ⟨b1, b2, b3, b4, b5⟩ := stepR (acc := fun _ => true) a3 (by decide) (nm_bare k3) rfl
  have hp2 : a + wKept0.length + 2 + (lnB2 wId r.id).length ≤ B.length := by
    have := congrArg List.length hB
    simp only [List.length_append, List.length_drop, List.length_cons, List.length_nil] at this
    omega
  unfold linesL rp0
  dsimp only
  by_cases ho : r.ow = []
  · rw [if_pos ho, List.nil_append] at b3
    have hL : isL B (a + wKept0.length + 2 + (lnB2 wId r.id).length) wOf = false := by
      refine isL_not 0 0 (by simp [wOf]) ?_
      rw [b3]
      simp [lnB2, wKind, wOf]
    obtain ⟨p, c1, c2, c3⟩ := linesC_back h (a + wKept0.length + 2 + (lnB2 wId r.id).length) 0 0 0 r.id [] [] [] hp2 b3
    refine ⟨p, ?_, c2, c3⟩
    rw [if_neg (by rw [a1]; simp), a2, if_neg (by rw [b1]; simp), b2, if_neg (by rw [hL]; simp), lnF_ok b4, b5, c1, ho]
  · rw [if_neg ho] at b3
    obtain ⟨d1, d2, d3, d4, d5⟩ := stepR (acc := ofB) b3 (by decide) (nm_bare (k4.resolve_left ho)) (by unfold ofB; simpa using ho)
    have hL := isL_at b3
    have hp3 : a + wKept0.length + 2 + (lnB2 wId r.id).length + (lnB2 wOf r.ow).length ≤ B.length := by
      have := congrArg List.length b3
      simp only [List.length_append, List.length_drop] at this
      have : 2 ≤ (lnB2 wKind (kindW.getD (r.ki - 1).toNat [])).length := by
        unfold lnB2
        simp only [List.length_append, List.length_cons, List.length_nil]
        omega
      omega
    obtain ⟨p, c1, c2, c3⟩ := linesC_back h (a + wKept0.length + 2 + (lnB2 wId r.id).length + (lnB2 wOf r.ow).length) 0 0 0 r.id r.ow [] [] hp3 d3
    refine ⟨p, ?_, c2, c3⟩
    rw [if_neg (by rw [a1]; simp), a2, if_neg (by rw [b1]; simp), b2, if_pos hL, if_neg (by rw [d1]; simp), d2, lnF_ok b4, b5, lnF_ok d4, d5, c1]
/-- a record with another byte in its block is not read -/
theorem rd_other {B q u v : List UInt8} {c d : UInt8} {r : Rcd} {a : Nat} (h : checkRecL r = 0) (ha : a ≤ B.length) (hb : r.bd = u ++ c :: v) (hcd : c ≠ d) (hB : B.drop a = lnsB r ((u ++ d :: v) ++ crlf2 ++ q)) : (rdOne B a).2.2 ≠ 0 := by
  obtain ⟨pl, e, e2, e3⟩ := lines_hdr h ha hB
  have hl : (u ++ d :: v).length = r.bd.length := by rw [hb]; simp
  have h4 : crlf2.length = 4 := rfl
  simp only [List.length_append] at e3 hl
  have hbk : ((B.drop pl).take r.bd.length) = u ++ d :: v := by rw [e2, List.append_assoc, ← hl, ← List.length_append, List.take_left]
  have hc : (B.drop (pl + r.bd.length)).take 4 = crlf2 := by
    rw [← List.drop_drop, e2, List.append_assoc, ← hl, ← List.length_append, List.drop_left]
    exact List.take_left (l₁ := crlf2)
  unfold rdOne
  rw [e]
  dsimp only
  rw [if_neg (by simp), if_neg (by omega), show (((pl : Nat) : Int) + (r.bd.length : Nat)).toNat = pl + r.bd.length by omega, hc, if_neg (by simp), Int.toNat_natCast, hbk, if_pos (fun x => hcd (digest_ne (by rw [x, hb])).symm)]
  simp
/-- where the first line is not, nothing is read -/
theorem rd_none {B : List UInt8} {a : Nat} (h : (B.drop a).take 6 ≠ wKept0) : (rdOne B a).2.2 ≠ 0 := by
  have hw : wholeB B (rp0 a).pl wKept0 = false := by
    cases e : wholeB B (rp0 a).pl wKept0 with
    | false => rfl
    | true =>
      have e2 := wholeI e
      exfalso
      apply h
      have e3 : B.drop a = wKept0 ++ ([13, 10] ++ B.drop (wholeA B (rp0 a).pl wKept0)) := by rw [← List.append_assoc]; exact e2
      rw [e3]
      exact List.take_left (l₁ := wKept0)
  have hL : (linesL B B.length (rp0 a)).1 = false := by
    unfold linesL
    dsimp only
    rw [if_pos hw]
  unfold rdOne
  rw [if_pos hL]
  simp
theorem cf_nodup : ∀ {l : List Rcd} {s : List (List UInt8)} {m : Int}, cfGo s m l = 0 → (∀ r ∈ l, s.contains r.id = false) ∧ (l.map Rcd.id).Nodup
  | [], s, m, h => ⟨fun r hr => (by cases hr), List.nodup_nil⟩
  | r :: t, s, m, h => by
    rw [cfGo] at h
    by_cases h1 : checkRecL r = 0
    · rw [if_neg (fun x => x h1)] at h
      by_cases h2 : s.contains r.id = true
      · rw [if_pos h2] at h; omega
      · rw [if_neg h2] at h
        obtain ⟨a, b⟩ := cf_nodup h
        have hs : ∀ x ∈ t, s.contains x.id = false ∧ x.id ≠ r.id := fun x hx => by
          have := a x hx
          simp only [List.contains_eq_mem, List.mem_append, List.mem_singleton, decide_eq_false_iff_not, not_or] at this ⊢
          exact this
        refine ⟨fun x hx => ?_, ?_⟩
        · rcases List.mem_cons.1 hx with rfl | hx
          · simpa using h2
          · exact (hs x hx).1
        · rw [List.map_cons, List.nodup_cons]
          refine ⟨fun hm => ?_, b⟩
          obtain ⟨x, hx, e⟩ := List.mem_map.1 hm
          exact (hs x hx).2 e
    · rw [if_pos h1] at h; exact absurd h h1
theorem file_nodup {l : List Rcd} (h : checkFileL l = 0) : (l.map Rcd.id).Nodup := by
  unfold checkFileL at h
  split at h
  · omega
  · exact (cf_nodup h).2
theorem nodup_not {l t : List Rcd} {r : Rcd} (h : ((l ++ r :: t).map Rcd.id).Nodup) : (l.map Rcd.id).contains r.id = false := by
  rw [List.map_append, List.map_cons] at h
  have := (List.nodup_append.1 h).2.2
  rw [List.contains_eq_mem, decide_eq_false_iff_not]
  intro hm
  exact this _ hm _ (List.mem_cons_self ..) rfl
theorem nodup_app {l t : List Rcd} {r : Rcd} (h : ((l ++ r :: t).map Rcd.id).Nodup) : ((l ++ [r] ++ t).map Rcd.id).Nodup := by
  rw [List.append_assoc]; exact h
theorem harmL_no (h : List Hm) (a : Int) : harmL h a a = h := by unfold harmL; rw [if_neg (by omega)]
theorem rs_one {B q : List UInt8} {r : Rcd} {k a f : Nat} {l : List Rcd} {h : List Hm} (ha : a ≤ B.length) (hd : B.drop a = recB r ++ q) (hc : checkRecL r = 0) (hn : (l.map Rcd.id).contains r.id = false) : rsGo B (k + 1) a f l h = rsGo B k (a + (recB r).length) (a + (recB r).length) (l ++ [r]) (harmL h f a) := by
  have hb := rd_back hc ha hd
  have hl := congrArg List.length hd
  simp only [List.length_append, List.length_drop] at hl
  have hp := recB_pos r
  rw [rsGo, if_pos (by omega), hb]
  dsimp only
  rw [if_pos ⟨rfl, hn⟩, Int.toNat_natCast]
theorem rs_pre {B q : List UInt8} : ∀ (t : List Rcd) (k a : Nat) (l : List Rcd) (h : List Hm), a ≤ B.length → B.length < a + k → B.drop a = fileB t ++ q → (∀ r ∈ t, checkRecL r = 0) → ((l ++ t).map Rcd.id).Nodup → ∃ k', B.length < a + (fileB t).length + k' ∧ rsGo B k a a l h = rsGo B k' (a + (fileB t).length) (a + (fileB t).length) (l ++ t) h
  | [], k, a, l, h, ha, hk, hd, hc, hn => ⟨k, by simpa [fileB] using hk, by simp [fileB]⟩
  | r :: t, k, a, l, h, ha, hk, hd, hc, hn => by
    rw [fileB, List.append_assoc] at hd
    have hp := recB_pos r
    have hl := congrArg List.length hd
    simp only [List.length_append, List.length_drop] at hl
    obtain ⟨k, rfl⟩ : ∃ k', k = k' + 1 := ⟨k - 1, by omega⟩
    rw [rs_one ha hd (hc r (by simp)) (nodup_not hn), harmL_no]
    have hd2 : B.drop (a + (recB r).length) = fileB t ++ q := by rw [← List.drop_drop, hd, List.drop_left]
    obtain ⟨k', e1, e2⟩ := rs_pre t k (a + (recB r).length) (l ++ [r]) h (by omega) (by omega) hd2 (fun x hx => hc x (by simp [hx])) (nodup_app hn)
    have e3 : (fileB (r :: t)).length = (recB r).length + (fileB t).length := by rw [fileB, List.length_append]
    refine ⟨k', by omega, ?_⟩
    rw [e2, e3, ← Nat.add_assoc, List.append_assoc]
    rfl
theorem rs_skip {B : List UInt8} : ∀ (m k a f : Nat) (l : List Rcd) (h : List Hm), (∀ j, a ≤ j → j < a + m → (rdOne B j).2.2 ≠ 0) → a + m ≤ B.length → B.length < a + k → ∃ k', B.length < a + m + k' ∧ rsGo B k a f l h = rsGo B k' (a + m) f l h
  | 0, k, a, f, l, h, _, _, hk => ⟨k, hk, rfl⟩
  | m + 1, k, a, f, l, h, he, ha, hk => by
    obtain ⟨k, rfl⟩ : ∃ k', k = k' + 1 := ⟨k - 1, by omega⟩
    have e := he a (Nat.le_refl _) (by omega)
    rw [rsGo, if_pos (by omega), if_neg (fun x => e x.1)]
    obtain ⟨k', e1, e2⟩ := rs_skip m k (a + 1) f l h (fun j h1 h2 => he j (by omega) (by omega)) (by omega) (by omega)
    refine ⟨k', by omega, ?_⟩
    rw [e2, show a + 1 + m = a + (m + 1) by omega]
theorem rs_run {B : List UInt8} : ∀ (t : List Rcd) (k a f : Nat) (l : List Rcd) (h : List Hm), a ≤ B.length → B.length < a + k → B.drop a = fileB t → (∀ r ∈ t, checkRecL r = 0) → ((l ++ t).map Rcd.id).Nodup → rsGo B k a f l h = (l ++ t, harmL h f a)
  | [], k, a, f, l, h, ha, hk, hd, hc, hn => by
    have : B.length ≤ a := by simpa [fileB] using hd
    obtain ⟨k, rfl⟩ : ∃ k', k = k' + 1 := ⟨k - 1, by omega⟩
    rw [rsGo, if_neg (by omega), List.append_nil]
  | r :: t, k, a, f, l, h, ha, hk, hd, hc, hn => by
    rw [fileB] at hd
    have hp := recB_pos r
    have hl := congrArg List.length hd
    simp only [List.length_append, List.length_drop] at hl
    obtain ⟨k, rfl⟩ : ∃ k', k = k' + 1 := ⟨k - 1, by omega⟩
    rw [rs_one ha hd (hc r (by simp)) (nodup_not hn)]
    have hd2 : B.drop (a + (recB r).length) = fileB t := by rw [← List.drop_drop, hd, List.drop_left]
    rw [rs_run t k (a + (recB r).length) (a + (recB r).length) (l ++ [r]) (harmL h f a) (by omega) (by omega) hd2 (fun x hx => hc x (by simp [hx])) (nodup_app hn), harmL_no, List.append_assoc]
    rfl
/-- of a file all records are rescued -/
theorem resc_file {l : List Rcd} (h : checkFileL l = 0) : rescL (fileB l) = (l, [], 0) := by
  obtain ⟨a1, a2, a3⟩ := file_ok h
  have e := rs_run (B := fileB l) l ((fileB l).length + 1) 0 0 [] [] (Nat.zero_le _) (by omega) rfl a1 (by simpa using file_nodup h)
  unfold rescL
  rw [if_neg (by omega), e, if_neg (by simp; omega)]
  simp [harmL]
/-- if a byte of one block is another, all but this record are rescued -/
theorem resc_other {l : List Rcd} {n : Nat} {u v : List UInt8} {c d : UInt8} (h : checkFileL l = 0) (hn : n < l.length) (hb : (l.getD n noRec).bd = u ++ c :: v) (hcd : c ≠ d) {C : List UInt8}
    (hC : C = fileB (l.take n) ++ lnsB (l.getD n noRec) ((u ++ d :: v) ++ crlf2 ++ fileB (l.drop (n + 1))))
    (hk : ∀ j, (fileB (l.take n)).length < j → j < (fileB (l.take n)).length + (recB (l.getD n noRec)).length → (C.drop j).take 6 ≠ wKept0) :
    rescL C = (l.eraseIdx n, [⟨((fileB (l.take n)).length : Nat), (((fileB (l.take n)).length + (recB (l.getD n noRec)).length : Nat) : Int)⟩], 0) := by
  obtain ⟨a1, a2, a3⟩ := file_ok h
  have hm : l.getD n noRec ∈ l := by rw [List.getD_eq_getElem?_getD, List.getElem?_eq_getElem hn]; exact List.getElem_mem hn
  have hnd := file_nodup h
  have e0 : l.eraseIdx n = l.take n ++ l.drop (n + 1) := List.eraseIdx_eq_take_drop_succ ..
  have hnd2 : ((l.take n ++ l.drop (n + 1)).map Rcd.id).Nodup := by
    rw [← e0]
    exact ((List.eraseIdx_sublist l n).map Rcd.id).nodup hnd
  have hl : fileB l = fileB (l.take n) ++ (recB (l.getD n noRec) ++ fileB (l.drop (n + 1))) := by
    conv => lhs; rw [← List.take_append_drop n l, fileB_app, dropG (d := noRec) hn, fileB]
  generalize l.getD n noRec = r at *
  have hr : ∀ q, recB r ++ q = lnsB r ((u ++ c :: v) ++ crlf2 ++ q) := fun q => by rw [recB_lns, hb]
  have hlen : ∀ q, (lnsB r ((u ++ d :: v) ++ crlf2 ++ q)).length = (recB r ++ q).length := fun q => by
    rw [hr, lnsB_app, lnsB_app r ((u ++ c :: v) ++ crlf2 ++ q)]
    simp only [List.length_append, List.length_cons]
  have hCl : C.length = (fileB l).length := by
    rw [hC, hl]
    simp only [List.length_append, hlen]
  have hlen2 := congrArg List.length hl
  simp only [List.length_append] at hlen2
  obtain ⟨k1, p1, p2⟩ := rs_pre (B := C) (l.take n) (C.length + 1) 0 [] [] (Nat.zero_le _) (by omega) hC (fun x hx => a1 x (List.mem_of_mem_take hx)) (by rw [List.nil_append]; exact (((List.take_sublist n l).map Rcd.id).nodup hnd))
  rw [Nat.zero_add, List.nil_append] at p2
  rw [Nat.zero_add] at p1
  have hd : C.drop (fileB (l.take n)).length = lnsB r ((u ++ d :: v) ++ crlf2 ++ fileB (l.drop (n + 1))) := by rw [hC, List.drop_left]
  obtain ⟨k2, q1, q2⟩ := rs_skip (B := C) (recB r).length k1 (fileB (l.take n)).length (fileB (l.take n)).length (l.take n) [] (fun j j1 j2 => by
    by_cases e : j = (fileB (l.take n)).length
    · subst e; exact rd_other (a1 r hm) (by omega) hb hcd hd
    · exact rd_none (hk j (by omega) j2)) (by omega) p1
  have hd2 : C.drop ((fileB (l.take n)).length + (recB r).length) = fileB (l.drop (n + 1)) := by
    have e1 : (lnsB r [] ++ ((u ++ d :: v) ++ crlf2)).length = (recB r).length := by
      have := hlen []
      rw [lnsB_app] at this
      simpa using this
    rw [← List.drop_drop, hd, lnsB_app, ← List.append_assoc, ← e1, List.drop_left]
  have e := rs_run (B := C) (l.drop (n + 1)) k2 ((fileB (l.take n)).length + (recB r).length) (fileB (l.take n)).length (l.take n) [] (by omega) q1 hd2 (fun x hx => a1 x (List.mem_of_mem_drop hx)) hnd2
  have hp := recB_pos r
  have hx : (l.take n ++ l.drop (n + 1)).length ≤ l.length := by rw [← e0]; exact List.length_eraseIdx_le l n
  unfold rescL
  rw [if_neg (by omega), p2, q2, e, if_neg (by dsimp only; omega), e0]
  unfold harmL
  rw [if_pos (by omega)]
  rfl

end Go.Abs
