import Derived.Test.YtppjlnagihefoaaDoorAbsA15
namespace Go.Abs
open Go
variable {G : PG}
variable {P : Program} {d : Nat} {S : Sv}

/-- A source of cells, in every world that is as this one but for draws. -/
structure Src (P : Program) (S : Sv) (sz m : Nat) (g : Nat → V) (v : Value) (news : List Value) : Prop where
  len : ∀ n, (Builtin.lenOf v).run P { S.w with drawn := n } = .ok m { S.w with drawn := n }
  first : ∀ n, (Builtin.firstCells sz m v).run P { S.w with drawn := n } = .ok news.toArray { S.w with drawn := n }
  size : news.length = m * sz
  flat : ∀ i, i < m → (g i).flat.length = sz
  rep : ∀ i j, i < m → j < sz → S.rep ((g i).flat.getD j .any) (news.getD (i * sz + j) undef)
  one : ∀ i j, i < m → j < sz → Abs.one (news.getD (i * sz + j) undef)

theorem div_coord {k m sz : Nat} (hk : k < m * sz) : ∃ i j, i < m ∧ j < sz ∧ k = i * sz + j := by
  have hz : 0 < sz := by rcases Nat.eq_zero_or_pos sz with h | h; · subst h; simp at hk
                         · exact h
  refine ⟨k / sz, k % sz, Nat.div_lt_of_lt_mul (by rwa [Nat.mul_comm] at hk), Nat.mod_lt _ hz, ?_⟩
  rw [Nat.mul_comm]; exact (Nat.div_add_mod k sz).symm

theorem src_cells {sz m c : Nat} {a : Addr} (u : Nat → Nat → Value) (hz : 0 < sz) (hc : ∀ i j, i < m → j < sz → S.w.cell? (a.add (i * sz + j)) = some (u i j)) :
    ∃ news : List Value, (∀ n, (Builtin.firstCells sz m (.slice (some a) m c)).run P { S.w with drawn := n } = .ok news.toArray { S.w with drawn := n }) ∧ news.length = m * sz ∧ ∀ i j, i < m → j < sz → news.getD (i * sz + j) undef = u i j := by
  refine ⟨(List.range (m * sz)).map fun k => u (k / sz) (k % sz), fun n => ?_, by simp, fun i j hi hj => ?_⟩
  · have := run_loadCells (P := P) (w := { S.w with drawn := n }) a (m * sz) (fun k => u (k / sz) (k % sz)) (fun k hk => by
      obtain ⟨i, j, hi, hj, rfl⟩ := div_coord hk
      have h1 : (i * sz + j) / sz = i := by
        rw [Nat.add_comm, Nat.add_mul_div_right _ _ hz, Nat.div_eq_of_lt hj, Nat.zero_add]
      rw [h1, mul_mod hj]
      exact hc i j hi hj)
    exact this
  · have h1 : (i * sz + j) / sz = i := by
      rw [Nat.add_comm, Nat.add_mul_div_right _ _ hz, Nat.div_eq_of_lt hj, Nat.zero_add]
    simp [List.getD_eq_getElem?_getD, List.getElem?_range (mul_lt hi hj), h1, mul_mod hj]

theorem src_zero {sz : Nat} {g : Nat → V} (a : Option Addr) (c : Nat) : Src P S sz 0 g (.slice a 0 c) [] :=
  ⟨fun n => rfl, fun n => by cases a <;> simp [Builtin.firstCells, loadCells, loadCellsFrom], by simp, fun i hi => by omega, fun i j hi => by omega, fun i j hi => by omega⟩

theorem src_ok (hs : Sim G S) {h : Heap} (hh : h = S.h) {sz m : Nat} {x : V} {v : Value} (hv : S.rep x v) {ids : List Nat} {g : Nat → V} {p : Prop} (he : vSrc h sz x = some (ids, m, g, p)) (hp : p) (hz : 0 < sz) :
    ∃ news, Src P S sz m g v news := by
  subst hh
  unfold vSrc at he
  split at he
  · cases he
    obtain ⟨a, rfl⟩ := inv_nil hv
    exact ⟨[], src_zero a 0⟩
  · rename_i s
    cases he
    obtain rfl := inv_str hv
    obtain rfl : sz = 1 := hp
    refine ⟨s.map fun b => .int .u8 b.toNat, ⟨fun n => by simp [Builtin.lenOf, size_mk], fun n => ?_, by simp, fun _ _ => rfl, fun i j hi hj => ?_, fun i j hi hj => ?_⟩⟩
    · simp [Builtin.firstCells, ByteArray.data_extract, List.extract_toArray]
    · obtain rfl : j = 0 := by omega
      have : (s.map fun b => Value.int .u8 b.toNat).getD (i * 1 + 0) undef = .int .u8 (s.getD i 0).toNat := by
        simp [List.getD_eq_getElem?_getD, hi]
      rw [this]; exact .pure (.int _ _)
    · obtain rfl : j = 0 := by omega
      have : (s.map fun b => Value.int .u8 b.toNat).getD (i * 1 + 0) undef = .int .u8 (s.getD i 0).toNat := by
        simp [List.getD_eq_getElem?_getD, hi]
      rw [this]; rfl
  · rename_i n f
    cases he
    cases inv_sl hv with
    | sl0 _ a c => exact ⟨[], src_zero a c⟩
    | sl _ _ b off c sz' u hb hnc hs' hf hc ho hp' =>
      by_cases hm : m = 0
      · subst hm; exact ⟨[], src_zero _ c⟩
      · obtain rfl : sz' = sz := by rw [← hf 0 (by omega), hp 0 (by omega)]
        obtain ⟨news, n1, n2, n3⟩ := src_cells (P := P) (S := S) (a := ⟨b, off, none⟩) (c := c) u hz (fun i j hi hj => by rw [addr_add]; exact hc i j hi hj)
        exact ⟨news, ⟨fun n => rfl, n1, n2, hf, fun i j hi hj => by rw [n3 i j hi hj]; exact .pure (hp' i j hi hj), fun i j hi hj => by rw [n3 i j hi hj]; exact ho i j hi hj⟩⟩
  · rename_i id n
    split at he
    · rename_i sz' m' f hh
      cases he
      obtain ⟨rfl, rfl⟩ := hp
      obtain ⟨va, vm, vc, g1, g2, g3⟩ := inv_vec hv
      have em := vec_len hs hh g1
      subst em
      have hv' := g3 rfl
      obtain ⟨k1, k2, ⟨k3, a, k4⟩ | ⟨b, cap, arr, tt, lo, hi', k3, k4, kc, k5, k6, k7, k8⟩⟩ := hs.blk _ _ hh
      · subst k3; rw [k4] at hv'; subst hv'; exact ⟨[], src_zero a 0⟩
      · rw [k3] at hv'; subst hv'
        obtain ⟨news, n1, n2, n3⟩ := src_cells (P := P) (S := S) (m := vm) (a := ⟨b, 0, none⟩) (c := cap) (fun i j => arr.getD (i * sz' + j) undef) hz (fun i j hi hj => by
          rw [addr_add, cell_of_heap k5, Nat.zero_add]
          have h1 := mul_lt hi hj
          have h2 : vm * sz' ≤ cap * sz' := Nat.mul_le_mul_right _ k4
          have : i * sz' + j < arr.size := by omega
          simp [Array.getD, this])
        exact ⟨news, ⟨fun n => rfl, n1, n2, k2, fun i j hi hj => by rw [n3 i j hi hj]; exact (k8 i j hi hj).1, fun i j hi hj => by rw [n3 i j hi hj]; exact (k8 i j hi hj).2⟩⟩
    · cases he
  · cases he

theorem zok_some (S : Sv) {t : TypeId} (h : zok (ti P t)) : ∃ i v, P.info? t = some i ∧ i.zero = some v ∧ v.cells.size = (ti P t).size ∧ (ti P t).size = i.size ∧ (ti P t).bytes = i.bytes := by
  unfold zok at h
  split at h
  · rename_i z hz
    obtain ⟨i, v, h1, h2, rfl, h3, h4⟩ := ti_zero hz
    have hr := ofV_rep S.imm S.w v
    obtain ⟨c1, _, _⟩ := cells_ok (S := S) (.pure hr) h.2
    exact ⟨i, v, h1, h2, by rw [c1, h.1], h3, h4⟩
  · exact h.elim

/-- the array that a growing append makes -/
theorem append_grow {t u ty e : TypeId} (ht : (ti P t).d = .slice e) (hu : (∃ e', P.underlying u = some (.slice e')) ∨ P.underlying u = some .string) (hz : zok (ti P e))
    {a : Option Addr} {n c m : Nat} {f g : Nat → V} {v : Value} {news : List Value} (hsrc : Src P S (ti P e).size m g v news) {olds : List Value} (hold : Src P S (ti P e).size n f (.slice a n c) olds)
    (hc : c < n + m) (hb : (n + m) * (ti P e).bytes ≤ 140737488355328) (h63 : n + m ≤ 4611686018427387904) :
    ∃ (arr : Array Value) (cap : Nat) (w' : World), (Builtin.append_ #[t, u] ty #[.slice a n c, v]).run P S.w = .ok (.slice (some ⟨S.w.heap.size, 0, none⟩) (n + m) cap) w' ∧ Pushed S.w w' (.cells arr e) ∧ n + m ≤ cap ∧ arr.size = cap * (ti P e).size ∧
      ∀ i j, i < n + m → j < (ti P e).size → arr.getD (i * (ti P e).size + j) undef = if i < n then olds.getD (i * (ti P e).size + j) undef else news.getD ((i - n) * (ti P e).size + j) undef := by
  obtain ⟨ie, zv, hi, hzv, hzc, e1, e2⟩ := zok_some S hz
  let cap := grownCap S.w (n + m) c e
  have hcap : n + m ≤ cap := grownCap_ge _ _ _ _
  let arr : Array Value := olds.toArray ++ news.toArray ++ Builtin.zeroCells zv.cells (cap - (n + m))
  refine ⟨arr, cap, { S.w with drawn := S.w.drawn + 1, heap := S.w.heap.push (.cells arr e) }, ?_, ⟨rfl, rfl, rfl, by simp, fun hb => by show (S.w.heap.push _)[_]? = _; rw [Array.getElem?_push, if_neg (by omega)], by simp⟩, hcap, ?_, ?_⟩
  · have hfit := growslice_fits hc hb
    have hn : ¬ n + m ≤ c := by omega
    have h63' : ¬ ((n : Int) + (m : Int) > 9223372036854775807) := by omega
    have h48 : ¬ (281474976710656 < Builtin.nextslicecap (n + m) c * ie.bytes) := by rw [← e2]; omega
    have hf1 := hold.first (S.w.drawn + 1)
    have hf2 := hsrc.first (S.w.drawn + 1)
    have hl := hsrc.len S.w.drawn
    have hsz := run_size (P := P) hi
    have hl' : (Builtin.lenOf v).run P S.w = .ok m S.w := hl
    rw [e1] at hf1 hf2
    have hmax : IntKind.max .i64 = 9223372036854775807 := rfl
    have hcapf : (Question.appendCap (n + m) c e).forced = false := rfl
    have hf1' : (Builtin.firstCells ie.size n (Value.slice a n c)).run P S.w.drew = .ok olds.toArray S.w.drew := hf1
    have hf2' : (Builtin.firstCells ie.size m v).run P S.w.drew = .ok news.toArray S.w.drew := hf2
    rcases hu with ⟨e', hu'⟩ | hu'
    all_goals
      simp [Builtin.append_, run_und (und_slice ht), run_und hu', hsz, hl', hn, hmax, h63', run_info hi, h48, hcapf, run_zero hi hzv, newRow, hf1', hf2']
      simp only [arr, Array.append_assoc]
      exact ⟨rfl, rfl⟩
  · simp only [arr, Array.size_append, List.size_toArray, hold.size, hsrc.size, size_zeroCells, hzc, ← Nat.add_mul]
    congr 1
    omega
  · intro i j hi' hj
    have hlt := mul_lt (i := i) (n := n + m) hi' hj
    simp only [arr, Array.getD_eq_getD_getElem?]
    rw [Array.getElem?_append_left (by simp only [Array.size_append, List.size_toArray, hold.size, hsrc.size, ← Nat.add_mul]; exact hlt), Array.getElem?_append]
    simp only [List.size_toArray, hold.size, List.getElem?_toArray, List.getD_eq_getElem?_getD]
    by_cases hc' : i < n
    · rw [if_pos hc', if_pos (mul_lt hc' hj)]
    · have h1 : n * (ti P e).size ≤ i * (ti P e).size := Nat.mul_le_mul_right _ (by omega)
      rw [if_neg hc', if_neg (by omega)]
      congr 2
      have : (i - n) * (ti P e).size = i * (ti P e).size - n * (ti P e).size := Nat.sub_mul _ _ _
      omega

/-- there is room -/
theorem append_room {t u ty e : TypeId} (ht : (ti P t).d = .slice e) (hu : (∃ e', P.underlying u = some (.slice e')) ∨ P.underlying u = some .string) (hpos : 0 < (ti P e).size)
    {a : Option Addr} {n c m : Nat} {g : Nat → V} {v : Value} {news : List Value} (hsrc : Src P S (ti P e).size m g v news) (hc : n + m ≤ c) (w' : World)
    (hst : ∀ ad, a = some ad → (storeCells (ad.add (n * (ti P e).size)) news).run P S.w = .ok () w') (h0 : a = none → w' = S.w) :
    (Builtin.append_ #[t, u] ty #[.slice a n c, v]).run P S.w = .ok (.slice a (n + m) c) w' := by
  obtain ⟨ie, hi, e1⟩ := ti_size (P := P) hpos
  have hsz := run_size (P := P) hi
  have hl : (Builtin.lenOf v).run P S.w = .ok m S.w := hsrc.len S.w.drawn
  have hf : (Builtin.firstCells ie.size m v).run P S.w = .ok news.toArray S.w := by rw [← e1]; exact hsrc.first S.w.drawn
  rcases hu with ⟨e', hu'⟩ | hu' <;> cases a with
  | none =>
    obtain rfl := h0 rfl
    simp [Builtin.append_, run_und (und_slice ht), run_und hu', hsz, hl, hc, hf]
  | some ad =>
    have h1 := hst ad rfl
    rw [e1] at h1
    simp [Builtin.append_, run_und (und_slice ht), run_und hu', hsz, hl, hc, hf, h1]

theorem und_src {u : TypeId} (h : srcT (ti P u).d = true) : (∃ e', P.underlying u = some (.slice e')) ∨ P.underlying u = some .string := by
  cases hd : (ti P u).d <;> rw [hd] at h <;> simp only [srcT] at h
  case slice e => exact .inl ⟨e, und_slice hd⟩
  case str => exact .inr (und_str hd)
  all_goals cases h
end Go.Abs
