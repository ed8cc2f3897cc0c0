import Derived.Test.YtppjlnagihefoaaDoorAbsA9
namespace Go.Abs
open Go
variable {G : PG}
variable {P : Program} {d : Nat} {S : Sv}

def OptRep (S : Sv) (o : Option V) (q : Option Value) : Prop := (o = none ∧ q = none) ∨ ∃ x v, o = some x ∧ q = some v ∧ S.rep x v

theorem OkO.imp {s : Sem Next} {p q : Prop} {v : V} (h : OkO G P d S s (.val p v)) (hpq : q → p) : OkO G P d S s (.val q v) := fun hq => h (hpq hq)
theorem OkO.bindVal {s : Sem Next} {p q : Prop} {v : V} (h : q → OkO G P d S s (.val p v)) (hpq : q → p) : OkO G P d S s (.val q v) := fun hq => h hq (hpq hq)

theorem ok_slice3 (hs : Sim G S) (t e : TypeId) (n : Nat) (f : Nat → V) (v : Value) (lo hi mx : Option V) (a b q : Option Value) {pm ph pl : Prop} {m l h : Int} (ht : (ti P t).d = .slice e) (hv : S.rep (.sl n f) v)
    (e0 : bnd n mx 0 = some (pm, m)) (hmx : mx.isSome = true) (e1 : bnd n hi n = some (ph, h)) (hhi : hi.isSome = true) (e2 : bnd n lo 0 = some (pl, l)) (hie : 0 < (ti P e).size)
    (hq : OptRep S mx q) (ha : OptRep S lo a) (hb : OptRep S hi b) :
    OkO G P d S (VS (Instr.sliceAt t v a b q)) (.val (pm ∧ ph ∧ pl ∧ h ≤ m ∧ l ≤ h ∧ (0 < n → (f 0).flat.length = (ti P e).size)) (bif decide (m = l) then .nilsl else .sl (h.toNat - l.toNat) (shF f l.toNat))) := by
  refine OkO.still hs fun ⟨h0, h1, h2, h3, h4, h5⟩ => ?_
  obtain ⟨ie, hi1, hi2⟩ := ti_size (P := P) hie
  have hvs : ∃ a0 c, v = .slice a0 n c ∧ n ≤ c := by
    cases inv_sl hv with
    | sl0 => exact ⟨_, _, rfl, Nat.zero_le _⟩
    | sl _ _ _ _ _ _ _ _ hnc => exact ⟨_, _, rfl, hnc⟩
  obtain ⟨a0, c, rfl, hnc⟩ := hvs
  obtain ⟨km, rfl, m1, m2⟩ : ∃ k, q = some (.int k m) ∧ 0 ≤ m ∧ m ≤ n := by
    rcases bnd_ok e0 hq h0 with ⟨rfl, _, _⟩ | hh
    · cases hmx
    · exact hh
  obtain ⟨kh, rfl, q1, q2⟩ : ∃ k, b = some (.int k h) ∧ 0 ≤ h ∧ h ≤ n := by
    rcases bnd_ok e1 hb h1 with ⟨rfl, _, _⟩ | hh
    · cases hhi
    · exact hh
  have w0 := sliceBound_ok (P := P) (k := km) (y := c) (code := .slice3Acap) m1 (by omega) S.w
  have w1 := sliceBound_ok (P := P) (k := kh) (y := m.toNat) (code := .slice3B) q1 (by omega) S.w
  have hb0 : (Instr.sliceBounds true n c a (some (.int kh h)) (some (.int km m))).run P S.w = .ok (l.toNat, h.toNat, m.toNat) S.w := by
    rcases bnd_ok e2 ha h2 with ⟨rfl, rfl, rfl⟩ | ⟨k', rfl, q3, q4⟩
    · simp [Instr.sliceBounds, w0, w1]
    · have w2 := sliceBound_ok (P := P) (k := k') (y := h.toNat) (code := .slice3C) q3 (by omega) S.w
      simp [Instr.sliceBounds, w0, w1, w2]
  refine ⟨.slice (if m.toNat = l.toNat then a0 else a0.map (·.add (l.toNat * ie.size))) (h.toNat - l.toNat) (m.toNat - l.toNat), run_VS ?_, .pure ?_⟩
  · have hsz := run_size (P := P) hi1
    have : (Instr.slice t (.slice a0 n c) a (some (.int kh h)) (some (.int km m))).run P S.w = .ok (.slice (if m.toNat = l.toNat then a0 else a0.map (·.add (l.toNat * ie.size))) (h.toNat - l.toNat) (m.toNat - l.toNat)) S.w := by
      simp only [Instr.slice, Sem.run_bind, run_und (und_slice ht), Result.andThen_ok, hb0, hsz, Sem.run_pure]
    simp only [Instr.sliceAt, Sem.run_bind, run_und (und_slice ht), Result.andThen_ok, this]
  · have hl0 : 0 ≤ l := by rcases bnd_ok e2 ha h2 with ⟨_, _, rfl⟩ | ⟨k', _, q3, q4⟩ <;> omega
    by_cases hml : m = l
    · simp only [hml, decide_true, cond_true]
      have e1 : h.toNat - l.toNat = 0 := by omega
      have e2 : l.toNat - l.toNat = 0 := by omega
      rw [e1, e2]
      exact .nilsl _
    · simp only [hml, decide_false, cond_false]
      refine sl_shift (P := P) (S := S) (e := e) (inv_sl hv) (by omega) (by omega) h5 (fun _ => hie) (m := m.toNat) (fun a c' hh => by cases hh; omega) _ (fun a c' hh => by cases hh; rw [hi2]) (fun hh => by omega) _ (by omega)

theorem ok_slice_arr (hs : Sim G S) (t e : TypeId) (len id off : Nat) (v : Value) (lo hi : Option V) (a b : Option Value) {ph pl : Prop} {l h : Int} (ht : (ti P t).d = .arr len e) (hv : S.rep (.ptr id off) v)
    (e1 : bnd len hi len = some (ph, h)) (e2 : bnd len lo 0 = some (pl, l)) (ha : OptRep S lo a) (hb : OptRep S hi b) :
    OkO G P d S (VS (Instr.sliceAt t v a b none)) (.val (ph ∧ pl ∧ l ≤ h ∧ (ti P e).size = 1) (.vw id (off + l.toNat) (h.toNat - l.toNat))) := by
  refine OkO.still hs fun ⟨h1, h2, h3, h4⟩ => ?_
  obtain ⟨ie, hi1, hi2⟩ := ti_size (P := P) (t := e) (by omega)
  obtain ⟨b0, g1, rfl⟩ := inv_ptr hv
  have hl : h.toNat ≤ len := by rcases bnd_ok e1 hb h1 with ⟨_, _, rfl⟩ | ⟨k, _, q1, q2⟩ <;> omega
  have hb0 : (Instr.sliceBounds false len len a b none).run P S.w = .ok (l.toNat, h.toNat, len) S.w := by
    rcases bnd_ok e1 hb h1 with ⟨rfl, rfl, rfl⟩ | ⟨k, rfl, q1, q2⟩ <;> rcases bnd_ok e2 ha h2 with ⟨rfl, rfl, rfl⟩ | ⟨k', rfl, q3, q4⟩
    · simp [Instr.sliceBounds]
    · have := sliceBound_ok (P := P) (k := k') (y := len) (code := .sliceB) q3 q4 S.w
      simp [Instr.sliceBounds, this]
    · have := sliceBound_ok (P := P) (k := k) (y := len) (code := .sliceAlen) q1 (by omega) S.w
      simp [Instr.sliceBounds, this]
    · have w1 := sliceBound_ok (P := P) (k := k) (y := len) (code := .sliceAlen) q1 (by omega) S.w
      have w2 := sliceBound_ok (P := P) (k := k') (y := h.toNat) (code := .sliceB) q3 (by omega) S.w
      simp [Instr.sliceBounds, w1, w2]
  have hsz := run_size (P := P) hi1
  have hlh : l.toNat ≤ h.toNat := by omega
  refine ⟨.slice (some (if len = l.toNat then ⟨b0, off, none⟩ else Addr.add ⟨b0, off, none⟩ (l.toNat * ie.size))) (h.toNat - l.toNat) (len - l.toNat), run_VS ?_, .vw _ _ _ b0 _ _ g1 (by omega) fun hh => ?_⟩
  · simp only [Instr.sliceAt, Sem.run_bind, run_und (und_arr ht), Result.andThen_ok, Instr.sureAddr, Sem.run_pure, hb0, hsz]
  · rw [if_neg (by omega), addr_add, ← hi2, h4, Nat.mul_one]

theorem ok_slice (hs : Sim G S) (t : TypeId) (x : V) (v : Value) (lo hi mx : Option V) (a b q : Option Value) (hv : S.rep x v) (ha : OptRep S lo a) (hb : OptRep S hi b) (hq : OptRep S mx q) :
    OkO G P d S (VS (Instr.sliceAt t v a b q)) (vSlice P t x lo hi mx) := by
  unfold vSlice
  split
  · rename_i s
    obtain rfl := inv_str hv
    split
    · rename_i ht e1 e2
      rcases hq with ⟨_, rfl⟩ | ⟨_, _, hh, _⟩
      · exact ok_slice_str hs t s _ _ _ _ ht e1 e2 ha hb
      · cases hh
    · trivial
  · rename_i n f
    split
    · rename_i e ht
      rcases hq with ⟨_, rfl⟩ | ⟨_, _, hh, _⟩
      · split
        · rename_i e1 e2
          exact OkO.bindVal (fun hp => ok_slice_sl hs t e n f v _ _ _ _ ht hv e1 e2 hp.2.2.2.2 ha hb) (fun hp => ⟨hp.1, hp.2.1, hp.2.2.1, hp.2.2.2.1⟩)
        · trivial
      · cases hh
    · rename_i e m ht
      split
      · split
        · rename_i e0 e1 e2
          exact OkO.bindVal (fun hp => ok_slice3 hs t e n f v _ _ _ _ _ _ ht hv e0 rfl e1 rfl e2 hp.2.2.2.2.2.2 hq ha hb) (fun hp => ⟨hp.1, hp.2.1, hp.2.2.1, hp.2.2.2.1, hp.2.2.2.2.1, hp.2.2.2.2.2.1⟩)
        · trivial
      · trivial
    · trivial
  · rename_i id off
    split
    · rename_i len e ht
      rcases hq with ⟨_, rfl⟩ | ⟨_, _, hh, _⟩
      · split
        · rename_i e1 e2
          exact ok_slice_arr hs t e len id off v _ _ _ _ ht hv e1 e2 ha hb
        · trivial
      · cases hh
    · trivial
  · trivial
end Go.Abs
