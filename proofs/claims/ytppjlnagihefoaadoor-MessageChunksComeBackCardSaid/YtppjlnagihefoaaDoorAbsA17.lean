import Derived.Test.YtppjlnagihefoaaDoorAbsA16
namespace Go.Abs
open Go
variable {G : PG}
variable {P : Program} {d : Nat} {S : Sv}

theorem Evo.grow {a a' : Option Addr} {n m c c' : Nat} (h : n < m) : Evo (.slice a n c) (.slice a' m c') := .inr ⟨_, _, _, _, _, _, rfl, rfl, h⟩
theorem upd_id {γ : Gh} {id : Nat} : upd γ id (γ id) = γ := by funext j; by_cases e : j = id <;> simp [upd, e]
theorem evo_upd {γ : Gh} {id : Nat} {v : Value} (h : Evo (γ id) v) (j : Nat) : Evo (γ j) (upd γ id v j) := by
  by_cases e : j = id
  · subst e; rw [upd_same]; exact h
  · rw [upd_ne _ _ e]; exact .refl _

theorem append_nil_ok (hs : Sim G S) {t u ty e : TypeId} (ht : (ti P t).d = .slice e) (hsl : (∃ e', P.underlying u = some (.slice e')) ∨ P.underlying u = some .string) {a0 : Option Addr} {b : Value} {m : Nat} {g : Nat → V} {news : List Value}
    (hS : Src P S (ti P e).size m g b news) (hz : zok (ti P e)) (hpos : 0 < (ti P e).size) (hby : m * (ti P e).bytes ≤ 140737488355328) (h63 : m ≤ 4611686018427387904) :
    ∃ u' w' val, runs (P := P) (VS (Builtin.append_ #[t, u] ty #[.slice a0 0 0, b])) S.w u' w' ∧ Sim G ⟨upd S.γ d val, S.imm, upd (killH d S.h) d (some ((Blk.vec (ti P e).size m g).kill d)), w'⟩ ∧
      Ext (· = d) S ⟨upd S.γ d val, S.imm, upd (killH d S.h) d (some ((Blk.vec (ti P e).size m g).kill d)), w'⟩ ∧ RepV (upd S.γ d val) S.imm w' (.vec d m) u' := by
  by_cases hm : m = 0
  · subst hm
    obtain ⟨g1, g2, g3⟩ := new_empty (d := d) (f := g) hs a0 hpos
    have hn : news = [] := List.eq_nil_of_length_eq_zero (by rw [hS.size]; simp)
    have hr := append_room (ty := ty) (n := 0) (c := 0) (a := a0) ht hsl hpos hS (Nat.le_refl _) S.w (fun ad _ => by subst hn; rfl) (fun _ => rfl)
    exact ⟨_, _, _, .inl (run_VS hr), g1, g2, g3⟩
  · obtain ⟨arr, cap, w', r1, r2, r3, r4, r5⟩ := append_grow (ty := ty) (n := 0) (c := 0) (a := a0) (f := g) ht hsl hz hS (src_zero a0 0) (by omega) (by rw [Nat.zero_add]; exact hby) (by omega)
    rw [Nat.zero_add] at r1 r3 r5
    obtain ⟨g1, g2, g3⟩ := new_vec (d := d) (f := g) hs r2 hpos r3 r4 (.inl (Nat.le_refl _)) hS.flat
      (fun i j hi hj => by rw [r5 i j hi hj, if_neg (by omega)]; exact hS.rep i j hi hj) (fun i j hi hj => by rw [r5 i j hi hj, if_neg (by omega)]; exact hS.one i j hi hj)
    exact ⟨_, _, _, .inl (run_VS r1), g1, g2, g3⟩

/-- cells of the old and the new ones -/
theorem app_cells {sz n m : Nat} {f g : Nat → V} {arr : Array Value} (ho : ∀ i j, i < n → j < sz → S.rep ((f i).flat.getD j .any) (arr.getD (i * sz + j) undef) ∧ one (arr.getD (i * sz + j) undef))
    (hn : ∀ i j, i < m → j < sz → S.rep ((g i).flat.getD j .any) (arr.getD ((n + i) * sz + j) undef) ∧ one (arr.getD ((n + i) * sz + j) undef)) :
    ∀ i j, i < n + m → j < sz → S.rep ((appF n f g i).flat.getD j .any) (arr.getD (i * sz + j) undef) ∧ one (arr.getD (i * sz + j) undef) := by
  intro i j hi hj
  simp only [appF]
  by_cases hc : i < n
  · simp only [hc, decide_true, cond_true]; exact ho i j hc hj
  · simp only [hc, decide_false, cond_false]
    have := hn (i - n) j (by omega) hj
    rwa [show n + (i - n) = i by omega] at this
theorem app_flat {sz n m : Nat} {f g : Nat → V} (h1 : ∀ i, i < n → (f i).flat.length = sz) (h2 : ∀ i, i < m → (g i).flat.length = sz) : ∀ i, i < n + m → (appF n f g i).flat.length = sz := by
  intro i hi
  simp only [appF]
  by_cases hc : i < n
  · simp only [hc, decide_true, cond_true]; exact h1 i hc
  · simp only [hc, decide_false, cond_false]; exact h2 _ (by omega)

abbrev AppOk (G : PG) (P : Program) (S : Sv) (s : Sem Next) (id sz n m : Nat) (f g : Nat → V) : Prop :=
  ∃ u' w' γ', runs (P := P) s S.w u' w' ∧ Sim G ⟨γ', S.imm, upd S.h id (some (.vec sz (n + m) (appF n f g))), w'⟩ ∧
    Ext (fun _ => False) S ⟨γ', S.imm, upd S.h id (some (.vec sz (n + m) (appF n f g))), w'⟩ ∧ RepV γ' S.imm w' (.vec id (n + m)) u'

theorem append_room_ok (hs : Sim G S) {t u ty e : TypeId} (ht : (ti P t).d = .slice e) (hsl : (∃ e', P.underlying u = some (.slice e')) ∨ P.underlying u = some .string) {b : Value} {m : Nat} {g : Nat → V} {news : List Value}
    (hS : Src P S (ti P e).size m g b news) (hpos : 0 < (ti P e).size) {id n : Nat} {f : Nat → V} (hh : S.h id = some (.vec (ti P e).size n f)) {bb cap : Nat} {arr : Array Value} {tt : TypeId} {lo hi : Nat}
    (k2 : ∀ i, i < n → (f i).flat.length = (ti P e).size) (k3 : S.γ id = .slice (some ⟨bb, 0, none⟩) n cap) (kc : 0 < cap) (k5 : S.w.heap[bb]? = some (.cells arr tt (lo, hi))) (k6 : arr.size = cap * (ti P e).size) (k7 : hi ≤ lo ∨ arr.size ≤ lo)
    (k8 : ∀ i j, i < n → j < (ti P e).size → RepC S.γ S.imm S.w ((f i).flat.getD j .any) (arr.getD (i * (ti P e).size + j) undef)) (hroom : n + m ≤ cap) :
    AppOk G P S (VS (Builtin.append_ #[t, u] ty #[.slice (some ⟨bb, 0, none⟩) n cap, b])) id (ti P e).size n m f g := by
  have hown : (S.h id).isSome = true := by rw [hh]; rfl
  have hblk : blkOf (S.γ id) = some bb := by simp [k3, blkOf]; omega
  have hlen : n * (ti P e).size + news.length ≤ arr.size := by
    rw [hS.size, k6, ← Nat.add_mul]; exact Nat.mul_le_mul_right _ hroom
  have hst := store_run (P := P) bb (n * (ti P e).size) tt lo hi news 0 arr S.w k5 k7 (by omega) (fun x hx => by
    obtain ⟨k, hk, rfl⟩ := List.mem_iff_getElem.1 hx
    obtain ⟨i, j, hi, hj, rfl⟩ := div_coord (by rw [hS.size] at hk; exact hk)
    have := hS.one i j hi hj
    rwa [List.getD_eq_getElem?_getD, List.getElem?_eq_getElem hk] at this)
  have hlay := lay_cells news (n * (ti P e).size) 0 arr (by omega)
  generalize (news.zipIdx 0).foldl (fun cs (p : Value × Nat) => cs.setIfInBounds (n * (ti P e).size + p.2) p.1) arr = arr' at hst hlay
  have hr := append_room (ty := ty) (n := n) (c := cap) (a := some ⟨bb, 0, none⟩) ht hsl hpos hS hroom (S.w.setRow bb arr') (fun ad had => by cases had; rw [addr_add, Nat.zero_add]; exact hst) (fun h => by cases h)
  have hsame : ∀ c, S.imm c → (S.w.setRow bb arr').heap[c]? = S.w.heap[c]? := fun c hc => setRow_other _ _ _ _ (fun e => by
    subst e; exact hs.disj c ⟨id, hown, hblk⟩ hc)
  have hevo : Evo (S.γ id) (.slice (some ⟨bb, 0, none⟩) (n + m) cap) := by
    rw [k3]
    by_cases hm : m = 0
    · subst hm; exact .refl _
    · exact Evo.grow (by omega)
  have hcl := app_cells (S := S) (n := n) (m := m) (f := f) (g := g) (arr := arr') (sz := (ti P e).size)
    (fun i j hi hj => by
      have := mul_lt hi hj
      rw [hlay.2, if_neg (by omega)]
      exact k8 i j hi hj)
    (fun i j hi hj => by
      have h1 := mul_lt hi hj
      have h2 : (n + i) * (ti P e).size = n * (ti P e).size + i * (ti P e).size := Nat.add_mul _ _ _
      rw [hlay.2, if_pos ⟨by omega, by rw [hS.size]; omega⟩]
      rw [show (n + i) * (ti P e).size + j - (n * (ti P e).size + 0) = i * (ti P e).size + j by omega]
      exact ⟨hS.rep i j hi hj, hS.one i j hi hj⟩)
  have := Sim.upd hs (fun _ => False) id (.slice (some ⟨bb, 0, none⟩) (n + m) cap) (.vec (ti P e).size (n + m) (appF n f g)) (S.w.setRow bb arr') rfl rfl rfl (by simp)
    (fun c hc hn => setRow_other _ _ _ _ (fun e => hn ⟨hown, by rw [hblk, e]⟩)) (fun c hc => .inl ⟨hown, by rw [hblk]; simpa [blkOf, Nat.ne_of_gt kc] using hc⟩)
    ⟨hpos, app_flat k2 hS.flat, .inr ⟨bb, cap, arr', tt, lo, hi, upd_same _ _ _, hroom, kc, setRow_heap _ _ _ _ _ _ k5, hlay.1.trans k6, by rw [hlay.1]; exact k7, fun i j hi hj =>
      ⟨(hcl i j hi hj).1.mono (fun _ h => h) hsame fun j _ => evo_upd hevo j, (hcl i j hi hj).2⟩⟩⟩ (.inr hevo)
  exact ⟨_, _, _, .inl (run_VS hr), this.1, this.2, .vec id (n + m) _ _ _ _ (upd_same _ _ _) (Nat.le_refl _) (fun _ => (upd_same _ _ _).symm) rfl⟩

theorem append_grow_ok (hs : Sim G S) {t u ty e : TypeId} (ht : (ti P t).d = .slice e) (hsl : (∃ e', P.underlying u = some (.slice e')) ∨ P.underlying u = some .string) {b : Value} {m : Nat} {g : Nat → V} {news olds : List Value}
    (hS : Src P S (ti P e).size m g b news) (hz : zok (ti P e)) (hpos : 0 < (ti P e).size) {id n : Nat} {f : Nat → V} {va : Option Addr} {vc : Nat} (hO : Src P S (ti P e).size n f (.slice va n vc) olds) (g1 : S.γ id = .slice va n vc) (hc : vc < n + m) (hnv : n ≤ vc)
    (hby : (n + m) * (ti P e).bytes ≤ 140737488355328) (h63 : n + m ≤ 4611686018427387904) :
    AppOk G P S (VS (Builtin.append_ #[t, u] ty #[.slice va n vc, b])) id (ti P e).size n m f g := by
  obtain ⟨arr, cap, w', r1, r2, r3, r4, r5⟩ := append_grow (ty := ty) (n := n) (c := vc) (a := va) (f := f) ht hsl hz hS hO hc hby h63
  have hevo : Evo (S.γ id) (.slice (some ⟨S.w.heap.size, 0, none⟩) (n + m) cap) := by rw [g1]; exact Evo.grow (by omega)
  have hcl := app_cells (S := S) (n := n) (m := m) (f := f) (g := g) (arr := arr) (sz := (ti P e).size)
    (fun i j hi hj => by rw [r5 i j (by omega) hj, if_pos hi]; exact ⟨hO.rep i j hi hj, hO.one i j hi hj⟩)
    (fun i j hi hj => by rw [r5 (n + i) j (by omega) hj, if_neg (by omega), show n + i - n = i by omega]; exact ⟨hS.rep i j hi hj, hS.one i j hi hj⟩)
  have := Sim.upd hs (fun _ => False) id (.slice (some ⟨S.w.heap.size, 0, none⟩) (n + m) cap) (.vec (ti P e).size (n + m) (appF n f g)) w' r2.os r2.tape r2.output (by rw [r2.size]; exact Nat.le_succ _)
    (fun c hc hn => r2.old hc) (fun c hc => .inr (by simp only [blkOf] at hc; split at hc <;> simp_all))
    ⟨hpos, app_flat hO.flat hS.flat, .inr ⟨S.w.heap.size, cap, arr, e, 0, 0, upd_same _ _ _, r3, by omega, r2.new, r4, .inl (Nat.le_refl _), fun i j hi hj =>
      ⟨(hcl i j hi hj).1.mono (fun _ h => h) (fun c hc => r2.old (hs.immLt c hc)) fun j _ => evo_upd hevo j, (hcl i j hi hj).2⟩⟩⟩ (.inr hevo)
  exact ⟨_, _, _, .inl (run_VS r1), this.1, this.2, .vec id (n + m) _ _ _ _ (upd_same _ _ _) (Nat.le_refl _) (fun _ => (upd_same _ _ _).symm) rfl⟩

theorem append_none_ok (hs : Sim G S) {t u ty e : TypeId} (ht : (ti P t).d = .slice e) (hsl : (∃ e', P.underlying u = some (.slice e')) ∨ P.underlying u = some .string) {b : Value} {g : Nat → V} {news : List Value}
    (hS : Src P S (ti P e).size 0 g b news) (hpos : 0 < (ti P e).size) {id : Nat} {f : Nat → V} {a : Option Addr} (hown : (S.h id).isSome = true) (g1 : S.γ id = .slice a 0 0) :
    AppOk G P S (VS (Builtin.append_ #[t, u] ty #[.slice a 0 0, b])) id (ti P e).size 0 0 f g := by
  have hn : news = [] := List.eq_nil_of_length_eq_zero (by rw [hS.size]; simp)
  have hr := append_room (ty := ty) (n := 0) (c := 0) (a := a) ht hsl hpos hS (Nat.le_refl _) S.w (fun ad _ => by subst hn; rfl) (fun _ => rfl)
  have := Sim.upd hs (fun _ => False) id (S.γ id) (.vec (ti P e).size (0 + 0) (appF 0 f g)) S.w rfl rfl rfl (Nat.le_refl _) (fun _ _ _ => rfl) (fun c hc => .inl ⟨hown, hc⟩)
    ⟨hpos, fun i hi => by omega, .inl ⟨rfl, a, by rw [upd_same]; exact g1⟩⟩ (.inr (.refl _))
  exact ⟨_, _, _, .inl (run_VS hr), this.1, this.2, .vec id 0 _ a 0 0 (by rw [upd_same]; exact g1) (Nat.le_refl _) (fun _ => by rw [upd_same]; exact g1.symm) rfl⟩

theorem ok_append (hs : Sim G S) (t u ty : TypeId) (x y : V) (a b : Value) (ha : S.rep x a) (hb : S.rep y b) : OkO G P d S (VS (Builtin.append_ #[t, u] ty #[a, b])) (vAppend P S.h d t u x y) := by
  unfold vAppend
  split
  · rename_i e ht hu
    have hsl := und_src hu
    split
    · rename_i ids m g p hsrc
      split
      · split
        · rintro ⟨hp, hz, hpos, hby, h63⟩
          obtain ⟨a0, rfl⟩ := inv_nil ha
          obtain ⟨news, hS⟩ := src_ok (P := P) hs rfl hb hsrc hp hpos
          exact append_nil_ok hs ht hsl hS hz hpos hby h63
        · trivial
      · rename_i id n
        split
        · rename_i sz n' f hh
          rintro ⟨hp, hz, hpos, rfl, rfl, hby, h63⟩
          obtain ⟨va, vm, vc, g1, g2, g3⟩ := inv_vec ha
          have em := vec_len hs hh g1
          subst em
          have hv := g3 rfl
          rw [g1] at hv
          subst hv
          obtain ⟨news, hS⟩ := src_ok (P := P) hs rfl hb hsrc hp hpos
          obtain ⟨olds, hO⟩ := src_ok (P := P) (sz := (ti P e).size) (h := S.h) (x := .vec id vm) (m := vm) (g := f) (ids := [id]) (p := vm = vm ∧ (ti P e).size = (ti P e).size) hs rfl ha (by simp [vSrc, hh]) ⟨rfl, rfl⟩ hpos
          obtain ⟨k1, k2, ⟨k3, a', k4⟩ | ⟨bb, cap, arr, tt, lo, hi', k3, k4, kc, k5, k6, k7, k8⟩⟩ := hs.blk _ _ hh
          · rw [k4] at g1; cases g1
            by_cases hm : m = 0
            · subst hm
              exact append_none_ok hs ht hsl hS hpos (by rw [hh]; rfl) k4
            · exact append_grow_ok hs ht hsl hS hz hpos hO k4 (by omega) (Nat.le_refl _) hby h63
          · rw [k3] at g1; cases g1
            by_cases hroom : vm + m ≤ vc
            · exact append_room_ok hs ht hsl hS hpos hh k2 k3 kc k5 k6 k7 k8 hroom
            · exact append_grow_ok hs ht hsl hS hz hpos hO k3 (by omega) k4 hby h63
        · trivial
      · trivial
    · trivial
  · trivial
end Go.Abs
