import Derived.Test.YtppjlnagihefoaaDoorAbsA8
namespace Go.Abs
open Go
variable {G : PG}
variable {P : Program} {d : Nat} {S : Sv}

def nilSem (a : Value) : Sem Next := match a with
    | .pointer none | .nilIface | .nilFunc => runtimePanic .nilDeref
    | .func (.method name) first captured =>
      match (first[0]? : Option Value) with
      | some .nilIface => runtimePanic .nilDeref
      | some (.iface t w) => do
        if (← nilAhead ((← program).types.size + Made.depth) t w name) != some false then
          unsupported (.noEntry "op/nilCheck.the method's receiver behind this interface value is a nil pointer, or cannot be seen to be none, and the arguments act or may panic (ledger 612)")
        pure (.value (.func (.method name) first captured))
      | _ => pure (.value (.func (.method name) first captured))
    | x => pure (.value x)
theorem ok_nil (hs : Sim G S) (x : V) (a : Value) (ha : S.rep x a) : OkO G P d S (nilSem a) (vNil S.h x) := by
  unfold vNil
  split
  · obtain ⟨b, g1, rfl⟩ := inv_ptr ha
    exact OkO.still hs fun _ => ⟨_, rfl, .ptr _ _ b g1⟩
  · rename_i id n sz i off
    split
    · rename_i z m f hh
      refine OkO.stillRd hs fun hm => ?_
      obtain ⟨va, vm, vc, g1, g2, g3⟩ := inv_eptr ha
      have em := vec_len hs hh g1
      obtain ⟨b, rfl, rfl⟩ := g3 (by omega)
      exact ⟨_, rfl, ha⟩
    · trivial
  · obtain ⟨b, off, u, rfl, _⟩ := inv_iptr ha
    exact OkO.still hs fun _ => ⟨_, rfl, ha⟩
  · split
    · obtain ⟨p, q, rfl, _⟩ := inv_fn ha
      exact OkO.still hs fun _ => ⟨_, rfl, ha⟩
    · trivial
  · trivial

theorem bnd_ok {n : Nat} {o : Option V} {q : Option Value} {dflt r : Int} {p : Prop} (h : bnd n o dflt = some (p, r)) (ho : (o = none ∧ q = none) ∨ ∃ x v, o = some x ∧ q = some v ∧ S.rep x v) (hp : p) :
    (o = none ∧ q = none ∧ r = dflt) ∨ ∃ k, q = some (.int k r) ∧ 0 ≤ r ∧ r ≤ n := by
  unfold bnd at h
  split at h
  · cases h
    rcases ho with ⟨_, rfl⟩ | ⟨x, v, h1, _⟩
    · exact .inl ⟨rfl, rfl, rfl⟩
    · cases h1
  · cases h
    rcases ho with ⟨h1, _⟩ | ⟨x, v, h1, rfl, h3⟩
    · cases h1
    · cases h1
      obtain rfl := inv_int h3
      exact .inr ⟨_, rfl, hp.1, hp.2⟩
  · cases h

theorem sliceBound_ok {k : IntKind} {i : Int} {y : Nat} {code : BoundsCode} (h0 : 0 ≤ i) (h1 : i ≤ y) (w : World) : (Instr.sliceBound (.int k i) y code).run P w = .ok i.toNat w := by
  simp [Instr.sliceBound, asIntOf, h0, h1]

theorem ok_slice_str (hs : Sim G S) (t : TypeId) (x : List UInt8) (lo hi : Option V) (a b : Option Value) {ph pl : Prop} {l h : Int} (ht : (ti P t).d = .str)
    (e1 : bnd x.length hi x.length = some (ph, h)) (e2 : bnd x.length lo 0 = some (pl, l))
    (ha : (lo = none ∧ a = none) ∨ ∃ y v, lo = some y ∧ a = some v ∧ S.rep y v) (hb : (hi = none ∧ b = none) ∨ ∃ y v, hi = some y ∧ b = some v ∧ S.rep y v) :
    OkO G P d S (VS (Instr.sliceAt t (.string ⟨x.toArray⟩) a b none)) (.val (ph ∧ pl ∧ l ≤ h) (.str ((x.drop l.toNat).take (h.toNat - l.toNat)))) := by
  refine OkO.still hs fun ⟨h1, h2, h3⟩ => ⟨_, run_VS (u := .string ⟨((x.drop l.toNat).take (h.toNat - l.toNat)).toArray⟩) ?_, .pure (.str _)⟩
  have ex : ∀ l h : Nat, (⟨x.toArray⟩ : ByteArray).extract l h = ⟨((x.drop l).take (h - l)).toArray⟩ := by
    intro l h
    apply ByteArray.ext
    simp [ByteArray.data_extract, List.extract_eq_take_drop]
  have hl : h.toNat ≤ x.length := by
    rcases bnd_ok e1 hb h1 with ⟨_, _, rfl⟩ | ⟨k, _, q1, q2⟩ <;> omega
  rcases bnd_ok e1 hb h1 with ⟨rfl, rfl, rfl⟩ | ⟨k, rfl, q1, q2⟩ <;> rcases bnd_ok e2 ha h2 with ⟨rfl, rfl, rfl⟩ | ⟨k', rfl, q3, q4⟩
  · simp [Instr.sliceAt, Instr.slice, run_und (und_str ht), Instr.sliceBounds]
  · have := sliceBound_ok (P := P) (k := k') (y := x.length) (code := .sliceB) q3 q4 S.w
    simp [Instr.sliceAt, Instr.slice, run_und (und_str ht), Instr.sliceBounds, size_mk, ex, this]
  · have := sliceBound_ok (P := P) (k := k) (y := x.length) (code := .sliceAlen) q1 q2 S.w
    simp [Instr.sliceAt, Instr.slice, run_und (und_str ht), Instr.sliceBounds, size_mk, ex, this]
  · have w1 := sliceBound_ok (P := P) (k := k) (y := x.length) (code := .sliceAlen) q1 q2 S.w
    have w2 := sliceBound_ok (P := P) (k := k') (y := h.toNat) (code := .sliceB) q3 (by omega) S.w
    simp [Instr.sliceAt, Instr.slice, run_und (und_str ht), Instr.sliceBounds, size_mk, ex, w1, w2]

theorem sl_shift {n : Nat} {f : Nat → V} {v : Value} {e : TypeId} (h : RepP S.imm S.w (.sl n f) v) {l r : Nat} (hlr : l ≤ r) (hr : r ≤ n) (hsz : 0 < n → (f 0).flat.length = (ti P e).size) (hpos : 0 < n → 0 < (ti P e).size)
    {m : Nat} (hm : ∀ a c, v = .slice a n c → r ≤ c) (a' : Option Addr) (ha' : ∀ a c, v = .slice a n c → a' = (if m = l then a else a.map (·.add (l * (ti P e).size)))) (hml : m = l → r = l) (cc : Nat) (hcc : r - l ≤ cc) :
    RepP S.imm S.w (.sl (r - l) (shF f l)) (.slice a' (r - l) cc) := by
  by_cases h0 : r - l = 0
  · rw [h0]; exact .sl0 _ _ _
  · cases h with
    | sl0 => omega
    | sl _ _ b off c sz u hb hnc hs hf hc ho hp =>
      have hz : sz = (ti P e).size := by rw [← hsz (by omega), hf 0 (by omega)]
      have := ha' _ _ rfl
      rw [if_neg (by intro hh; have := hml hh; omega)] at this
      simp only [Option.map_some, addr_add] at this
      rw [this]
      refine .sl _ _ b _ cc sz (fun i j => u (i + l) j) hb hcc hs (fun i hi => hf _ (by omega)) (fun i j hi hj => ?_) (fun i j hi hj => ho _ _ (by omega) hj) (fun i j hi hj => hp _ _ (by omega) hj)
      have := hc (i + l) j (by omega) hj
      rw [← hz]
      rw [show off + l * sz + (i * sz + j) = off + ((i + l) * sz + j) by rw [Nat.add_mul]; omega]
      exact this

theorem ok_slice_sl (hs : Sim G S) (t e : TypeId) (n : Nat) (f : Nat → V) (v : Value) (lo hi : Option V) (a b : Option Value) {ph pl : Prop} {l h : Int} (ht : (ti P t).d = .slice e) (hv : S.rep (.sl n f) v)
    (e1 : bnd n hi n = some (ph, h)) (e2 : bnd n lo 0 = some (pl, l)) (hie : 0 < (ti P e).size)
    (ha : (lo = none ∧ a = none) ∨ ∃ y v, lo = some y ∧ a = some v ∧ S.rep y v) (hb : (hi = none ∧ b = none) ∨ ∃ y v, hi = some y ∧ b = some v ∧ S.rep y v) :
    OkO G P d S (VS (Instr.sliceAt t v a b none)) (.val (ph ∧ pl ∧ l ≤ h ∧ (0 < n → (f 0).flat.length = (ti P e).size)) (.sl (h.toNat - l.toNat) (shF f l.toNat))) := by
  refine OkO.still hs fun ⟨h1, h2, h3, h4⟩ => ?_
  obtain ⟨ie, hi1, hi2⟩ := ti_size (P := P) hie
  have hvs : ∃ a0 c, v = .slice a0 n c ∧ n ≤ c := by
    cases inv_sl hv with
    | sl0 => exact ⟨_, _, rfl, Nat.zero_le _⟩
    | sl _ _ _ _ _ _ _ _ hnc => exact ⟨_, _, rfl, hnc⟩
  obtain ⟨a0, c, rfl, hnc⟩ := hvs
  have hl : h.toNat ≤ n := by rcases bnd_ok e1 hb h1 with ⟨_, _, rfl⟩ | ⟨k, _, q1, q2⟩ <;> omega
  have hb0 : (Instr.sliceBounds true n c a b none).run P S.w = .ok (l.toNat, h.toNat, c) S.w := by
    rcases bnd_ok e1 hb h1 with ⟨rfl, rfl, rfl⟩ | ⟨k, rfl, q1, q2⟩ <;> rcases bnd_ok e2 ha h2 with ⟨rfl, rfl, rfl⟩ | ⟨k', rfl, q3, q4⟩
    · simp [Instr.sliceBounds]
    · have := sliceBound_ok (P := P) (k := k') (y := n) (code := .sliceB) q3 q4 S.w
      simp [Instr.sliceBounds, this]
    · have := sliceBound_ok (P := P) (k := k) (y := c) (code := .sliceAcap) q1 (by omega) S.w
      simp [Instr.sliceBounds, this]
    · have w1 := sliceBound_ok (P := P) (k := k) (y := c) (code := .sliceAcap) q1 (by omega) S.w
      have w2 := sliceBound_ok (P := P) (k := k') (y := h.toNat) (code := .sliceB) q3 (by omega) S.w
      simp [Instr.sliceBounds, w1, w2]
  refine ⟨.slice (if c = l.toNat then a0 else a0.map (·.add (l.toNat * ie.size))) (h.toNat - l.toNat) (c - l.toNat), run_VS ?_, .pure ?_⟩
  · have hsz := run_size (P := P) hi1
    have : (Instr.slice t (.slice a0 n c) a b none).run P S.w = .ok (.slice (if c = l.toNat then a0 else a0.map (·.add (l.toNat * ie.size))) (h.toNat - l.toNat) (c - l.toNat)) S.w := by
      simp only [Instr.slice, Sem.run_bind, run_und (und_slice ht), Result.andThen_ok, hb0, hsz, Sem.run_pure]
    simp only [Instr.sliceAt, Sem.run_bind, run_und (und_slice ht), Result.andThen_ok, this]
  · have hlh : l.toNat ≤ h.toNat := by omega
    refine sl_shift (P := P) (S := S) (e := e) (inv_sl hv) hlh hl h4 (fun _ => hie) (m := c) (fun a c' hh => by cases hh; omega) _ (fun a c' hh => by cases hh; rw [hi2]) (fun hh => by omega) _ (by omega)
end Go.Abs
