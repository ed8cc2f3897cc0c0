import Derived.Test.YtppjlnagihefoaaDoorAbsA7
import Derived.Laws.BytesString
namespace Go.Abs
open Go
variable {G : PG}
variable {P : Program} {d : Nat} {S : Sv}

theorem ok_len (hs : Sim G S) (t : TypeId) (ty : TypeId) (x : V) (a : Value) (ha : S.rep x a) : OkO G P d S (VS (Builtin.len_ #[t] ty #[a])) (vLen S.h (ti P t) x) := by
  unfold vLen
  split
  · rename_i s hd
    obtain rfl := inv_str ha
    exact OkO.still hs fun _ => ⟨_, run_VS (by simp [Builtin.len_, run_und (und_str hd), size_mk, goInt]), .pure (.int _ _)⟩
  · rename_i e hd
    obtain ⟨va, rfl⟩ := inv_nil ha
    exact OkO.still hs fun _ => ⟨_, run_VS (by simp [Builtin.len_, run_und (und_slice hd), goInt]), .pure (.int _ _)⟩
  · rename_i e n f hd
    have hr : (Builtin.len_ #[t] ty #[a]).run P S.w = .ok (.int .i64 n) S.w := by
      cases inv_sl ha with
      | sl0 => simp [Builtin.len_, run_und (und_slice hd), goInt]
      | sl => simp [Builtin.len_, run_und (und_slice hd), goInt]
    exact OkO.still hs fun _ => ⟨_, run_VS hr, .pure (.int _ _)⟩
  · rename_i e id n hd
    split
    · rename_i sz m f hh
      refine OkO.stillRd hs fun hm => ⟨.int .i64 n, run_VS ?_, .pure (.int _ _)⟩
      obtain ⟨va, vm, vc, g1, g2, g3⟩ := inv_vec ha
      have em := vec_len hs hh g1
      obtain rfl := g3 (by omega)
      rw [g1]
      simp [Builtin.len_, run_und (und_slice hd), goInt]
      omega
    · trivial
  · trivial

theorem ok_min (hs : Sim G S) (ts : Array TypeId) (ty : TypeId) (x y : V) (a b : Value) (ha : S.rep x a) (hb : S.rep y b) : OkO G P d S (VS (Builtin.min_ ts ty #[a, b])) (vMin x y) := by
  unfold vMin
  split
  · obtain rfl := inv_int ha
    obtain rfl := inv_int hb
    refine OkO.still hs fun hk => ?_
    subst hk
    refine ⟨_, run_VS (u := .int _ _) ?_, .pure (.int _ _)⟩
    rename_i k x y
    have : (if y < x then y else x) = min x y := by split <;> omega
    simp [Builtin.min_, Builtin.min2, this]
  · trivial
theorem ok_max (hs : Sim G S) (ts : Array TypeId) (ty : TypeId) (x y : V) (a b : Value) (ha : S.rep x a) (hb : S.rep y b) : OkO G P d S (VS (Builtin.max_ ts ty #[a, b])) (vMax x y) := by
  unfold vMax
  split
  · obtain rfl := inv_int ha
    obtain rfl := inv_int hb
    refine OkO.still hs fun hk => ?_
    subst hk
    refine ⟨_, run_VS (u := .int _ _) ?_, .pure (.int _ _)⟩
    rename_i k x y
    have : (if y > x then y else x) = max x y := by split <;> omega
    simp [Builtin.max_, Builtin.max2, this]
  · trivial

theorem bytes_run {a : Addr} {n c : Nat} {f : Nat → V} (u : Nat → Value) (hc : ∀ j, j < n → S.w.cell? (a.add j) = some (u j)) (hu : ∀ j, j < n → ∃ m, f j = .int .u8 m ∧ u j = .int .u8 m) :
    (Conv.bytesToString (.slice (some a) n c)).run P S.w = .ok (.string ⟨(bytesOf n f).toArray⟩) S.w := by
  let m : Nat → Int := fun j => match u j with | .int _ m => m | _ => 0
  have hm : ∀ j, j < n → u j = .int .u8 (m j) := fun j hj => by obtain ⟨q, _, h2⟩ := hu j hj; simp [m, h2]
  have hl := run_loadCells (P := P) (w := S.w) a n (fun j => .int .u8 (m j)) (fun j hj => by rw [hc j hj, hm j hj])
  have e : (List.range n).map (fun j => Value.int .u8 (m j)) = ((List.range n).map m).map (Value.int .u8) := by simp [List.map_map, Function.comp_def]
  rw [e] at hl
  rw [run_bytesToString _ _ _ _ _ hl]
  have push : ∀ (l : List Int) (r : List UInt8), l.foldl (fun (r : ByteArray) n => r.push (UInt8.ofNat n.toNat)) ⟨r.toArray⟩ = ⟨(r ++ l.map fun n => UInt8.ofNat n.toNat).toArray⟩ := by
    intro l
    induction l with
    | nil => intro r; simp
    | cons x l ih =>
      intro r
      rw [List.foldl_cons]
      have : (⟨r.toArray⟩ : ByteArray).push (UInt8.ofNat x.toNat) = ⟨(r ++ [UInt8.ofNat x.toNat]).toArray⟩ := by
        show (⟨r.toArray.push _⟩ : ByteArray) = _
        simp
      rw [this, ih]
      simp
  have := push ((List.range n).map m) []
  rw [show (⟨([] : List UInt8).toArray⟩ : ByteArray) = ByteArray.empty from rfl] at this
  rw [this]
  congr 3
  simp only [List.nil_append, List.map_map, bytesOf]
  refine congrArg List.toArray (List.map_congr_left fun j hj => ?_)
  obtain ⟨q, h1, h2⟩ := hu j (by simpa using hj)
  have := hm j (by simpa using hj)
  rw [h2] at this
  cases this
  simp [h1, V.toByte]


/-- the cells of a slice of bytes for good -/
theorem ok_convStr {s t : TypeId} {e : TypeId} (h1 : (ti P s).d = .slice e) (h2 : (ti P t).d = .str) (h3 : (ti P e).d = .int .u8) (v : Value) (n : Nat) (f : Nat → V) (a : Option Addr) (c : Nat) (hv : v = .slice a n c)
    (u : Nat → Value) (hc : ∀ ad, a = some ad → ∀ j, j < n → S.w.cell? (ad.add j) = some (u j)) (hu : ∀ j, j < n → ∃ m, f j = .int .u8 m ∧ u j = .int .u8 m) (h0 : a = none → n = 0) :
    (convert s t v).run P S.w = .ok (.string ⟨(bytesOf n f).toArray⟩) S.w := by
  subst hv
  have hb : (Conv.bytesToString (.slice a n c)).run P S.w = .ok (.string ⟨(bytesOf n f).toArray⟩) S.w := by
    cases a with
    | none => obtain rfl := h0 rfl; simp [Conv.bytesToString, bytesOf]; rfl
    | some ad => exact bytes_run u (hc ad rfl) hu
  simp only [convert, Sem.run_bind, run_und (und_slice h1), run_und (und_str h2), Result.andThen_ok, run_und (und_int h3), hb]

theorem ok_convInt (hs : Sim G S) {s t : TypeId} {k k' k0 : IntKind} (n : Int) (h1 : (ti P s).d = .int k') (h2 : (ti P t).d = .int k) : OkO G P d S (VS (convert s t (.int k0 n))) (vToInt k n) := by
  have hr : (convert s t (.int k0 n)).run P S.w = .ok (.int k (k.wrap n)) S.w := by
    simp only [convert, Sem.run_bind, run_und (und_int h1), run_und (und_int h2), Result.andThen_ok, Conv.intToInt, Sem.run_pure]
  unfold vToInt
  cases hk : isI64 k with
  | true =>
    refine OkO.still hs fun hp => ⟨_, run_VS hr, ?_⟩
    obtain rfl := isI64_true hk
    rw [wrap_i64 hp]
    exact .pure (.int _ _)
  | false => exact OkO.still hs fun _ => ⟨_, run_VS hr, .pure (.int _ _)⟩

theorem inv_one_byte {x : V} {m : Int} {u : Value} {imm w} (h : RepP imm w (x.flat.getD 0 .any) u) (e : x = .int .u8 m) : u = .int .u8 m := by
  subst e
  simp only [V.flat, List.getD_cons_zero] at h
  cases h; rfl

theorem ok_conv_bytes (hs : Sim G S) (s t : TypeId) (x : V) (a : Value) (ha : S.rep x a) (hx : ∀ q, x ≠ .str q) : OkO G P d S (VS (convert s t a)) (vConv P S.h d s t x) := by
  unfold vConv
  split
  · rename_i k n
    obtain rfl := inv_int ha
    split
    · rename_i h1 h2
      exact ok_convInt hs n h1 h2
    · trivial
  · rename_i q; exact absurd rfl (hx q)
  · obtain ⟨va, rfl⟩ := inv_nil ha
    split
    · rename_i e h1 h2
      split
      · rename_i h3
        refine OkO.still hs fun _ => ⟨_, run_VS (ok_convStr h1 h2 h3 _ 0 (fun _ => .any) va 0 rfl (fun _ => undef) (fun _ _ j hj => by omega) (fun j hj => by omega) (fun _ => rfl)), .pure ?_⟩
        exact .str []
      · trivial
    · trivial
  · rename_i n f
    split
    · rename_i e h1 h2
      split
      · rename_i h3
        refine OkO.still hs fun hp => ?_
        cases inv_sl ha with
        | sl0 _ va c =>
          exact ⟨_, run_VS (ok_convStr h1 h2 h3 _ 0 f va c rfl (fun _ => undef) (fun _ _ j hj => by omega) (fun j hj => by omega) (fun _ => rfl)), .pure (.str _)⟩
        | sl _ _ b off c sz u hb hnc hsz hf hc ho hp' =>
          refine ⟨_, run_VS (ok_convStr h1 h2 h3 _ n f _ c rfl (fun j => u j 0) (fun ad had j hj => ?_) (fun j hj => ?_) (fun h => by cases h)), .pure (.str _)⟩
          · cases had
            obtain ⟨m, hm⟩ := hp j hj
            have : sz = 1 := by rw [← hf j hj, hm]; rfl
            subst this
            rw [addr_add]
            simpa using hc j 0 hj (by omega)
          · obtain ⟨m, hm⟩ := hp j hj
            exact ⟨m, hm, inv_one_byte (hp' j 0 hj hsz) hm⟩
      · trivial
    · trivial
  · rename_i id n
    split
    · rename_i e h1 h2
      split
      · rename_i sz m f h3 hh
        refine OkO.stillRd hs fun ⟨hm, hz, hp⟩ => ?_
        subst hm hz
        obtain ⟨va, vm, vc, g1, g2, g3⟩ := inv_vec ha
        have em := vec_len hs hh g1
        subst em
        have hv := g3 rfl
        obtain ⟨k1, k2, ⟨k3, va', k4⟩ | ⟨b, cap, arr, tt, lo, hi', k3, k4, kc, k5, k6, k7, k8⟩⟩ := hs.blk _ _ hh
        · rw [k4] at hv
          obtain rfl := k3
          exact ⟨_, run_VS (ok_convStr h1 h2 h3 _ 0 f va' 0 hv (fun _ => undef) (fun _ _ j hj => by omega) (fun j hj => by omega) (fun _ => rfl)), .pure (.str _)⟩
        · rw [k3] at hv
          refine ⟨_, run_VS (ok_convStr h1 h2 h3 _ vm f _ cap hv (fun j => arr.getD j undef) (fun ad had j hj => ?_) (fun j hj => ?_) (fun h => by cases h)), .pure (.str _)⟩
          · cases had
            rw [addr_add, cell_of_heap k5]
            have hj' : j < arr.size := by rw [Nat.mul_one] at k6; omega
            simp [Array.getD, hj']
          · obtain ⟨m, hm⟩ := hp j hj
            refine ⟨m, hm, ?_⟩
            have := (k8 j 0 hj (by omega)).1
            rw [hm] at this
            simp only [V.flat, List.getD_cons_zero, Nat.mul_one, Nat.add_zero] at this
            exact inv_int (S := S) this
      · trivial
    · trivial
  · rename_i id off n
    split
    · rename_i e h1 h2
      split
      · rename_i cs h3 hh
        refine OkO.stillRd hs fun ⟨hm, hp⟩ => ?_
        obtain ⟨b, a0, c, g1, rfl, g2, g3⟩ := inv_vw ha
        obtain ⟨b', arr, tt, lo, hi', k1, k2, k3, k4, k5⟩ := hs.blk _ _ hh
        rw [g1] at k1
        cases k1
        refine ⟨_, run_VS (ok_convStr h1 h2 h3 _ n (fun i => cs.getD (off + i) .any) _ c rfl (fun j => arr.getD (off + j) undef) (fun ad had j hj => ?_) (fun j hj => ?_) (fun h => by cases h)), .pure (.str _)⟩
        · cases had
          rw [g3 (by omega), addr_add, cell_of_heap k2]
          have hj' : off + j < arr.size := by omega
          simp [Array.getD, hj']
        · obtain ⟨m, hm'⟩ := hp j hj
          refine ⟨m, hm', ?_⟩
          have := (k5 (off + j) (by omega)).1
          rw [hm'] at this
          exact inv_int (S := S) this
      · trivial
    · trivial
  · trivial

end Go.Abs
