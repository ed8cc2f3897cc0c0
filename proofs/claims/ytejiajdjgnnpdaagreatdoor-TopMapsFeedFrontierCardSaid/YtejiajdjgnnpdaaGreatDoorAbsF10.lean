/- what functions of this program compute: contracts, each a function's own -/
import Derived.Test.YtejiajdjgnnpdaaGreatDoorAbsK3
import Derived.Test.YtejiajdjgnnpdaaGreatDoorAbsFacts
import Derived.Test.YtejiajdjgnnpdaaGreatDoorAbsF9
import Derived.Test.YtejiajdjgnnpdaaGreatDoorAbsShelf
import Derived.Lib.SplitLaws
import Derived.Lib.SlTrimSet
import Derived.Lib.Atoi
import Derived.Lib.Itoa
import Derived.Lib.ItoaNum
import Derived.Lib.AtoiErrMem
import Derived.Lib.Join
import Derived.Lib.Repeat
import Derived.Lib.IndexMore
import Derived.Lib.AsciiSet
import Derived.Lib.IndexAny
import Derived.Sort.Walk0
import Derived.Lib.ItoaLen
import Derived.Shelf.Spec.SlicesInsert
import Derived.Shelf.Spec.SlicesInsertGrow
import Derived.Lib.Overlaps
import Derived.Lib.AppendZerosOnto
import Derived.Laws.NewBlocks
import Derived.WalkKit
import Derived.Lib.Walk
namespace Go.Abs
open Go Go.Proofs
set_option maxHeartbeats 4000000
set_option maxRecDepth 100000
set_option linter.unusedVariables false
set_option linter.unusedSimpArgs false
/- x.insert at what is wanted (written by turnins.py) -/
theorem szEntW : (Tryz.prog.info? 51).map (·.size) = some 3 := by kernel_rfl
theorem copy3W (w : World) {b o dl dc : Nat} {arr : Array Value} {t : TypeId} {lo : Nat} (ty : TypeId) (hb : w.heap[b]? = some (.cells arr t (lo, lo))) (a : Addr) (sl sc k : Nat) (cs : List Value) (hk : k = min sl dl) (hl : cs.length = k * 3)
    (hsrc : ∀ j v, cs[j]? = some v → w.cell? (a.add j) = some v) (hle : o + cs.length ≤ arr.size) (h1 : ∀ v ∈ cs, one v) :
    (Builtin.copy_ #[34, 34] ty #[.slice (some ⟨b, o, none⟩) dl dc, .slice (some a) sl sc]).run Tryz.prog w = .ok (goInt k) (w.setRow b (layA arr o cs)) := by
  have hl' := run_loadCells_list (P := Tryz.prog) w a cs hsrc
  have hst := store_run (P := Tryz.prog) b o t lo lo cs 0 arr w hb (.inl rfl) (by omega) h1
  have hu := run_underlying Tryz.underlying34
  cases hq : (Tryz.prog.info? 51) with
  | none => have := szEntW; rw [hq] at this; cases this
  | some i =>
    have hi : i.size = 3 := by have := szEntW; rw [hq] at this; simpa using this
    have hm : Nat.min sl dl = k := hk.symm
    simp [Builtin.copy_, hu, Builtin.lenOf, Builtin.firstCells, sizeOf, typeInfo, hq, hi, hm, ← hl, hl', hst, layA]
theorem overlaps_noW (w : World) {vb vo b o la ca lb cb : Nat} {arr varr : Array Value} {t vt : TypeId} {lo vlo : Nat} (hne : vb ≠ b) (hv : w.heap[vb]? = some (.cells varr vt (vlo, vlo))) (hb : w.heap[b]? = some (.cells arr t (lo, lo))) (hs : arr.size ≠ 0) :
    (callFunc 75 #[.slice (some ⟨vb, vo, none⟩) la ca, .slice (some ⟨b, o, none⟩) lb cb]).run Tryz.prog w = .ok (.value (.bool false)) w := by
  have hsz : ∀ w, (Go.sizeOf 51).run Tryz.prog w = .ok 3 w := fun w => by
    cases hq : (Tryz.prog.info? 51) with
    | none => have := szEntW; rw [hq] at this; cases this
    | some i =>
      have hi : i.size = 3 := by have := szEntW; rw [hq] at this; simpa using this
      simp [sizeOf, typeInfo, hq, hi]
  rw [run_callFunc_extern Tryz.func75 (by kernel_rfl) (by kernel_rfl) (by kernel_rfl) (e := Extern.SlicesOverlaps.overlaps #[34, 34] #[4]) (by kernel_rfl),
    Lib.run_overlaps_apart w 34 4 51 Tryz.underlying34 3 hsz ⟨vb, vo, none⟩ ⟨b, o, none⟩ la ca lb cb hne vt t varr.size arr.size (by unfold World.shape?; rw [hv]) (by unfold World.shape?; rw [hb]) hs (frozen_no hv _) (frozen_no hv _)]
  rfl
open Go.RowKit Go.Shelf in
set_option maxRecDepth 100000 in
theorem ins_roomW (b n cap a vb vo vc : Nat) (arr varr : Array Value) (t vt : TypeId) (lo vlo : Nat) (tl xs : List Value) (w : World) (hne : vb ≠ b) (hb : w.heap[b]? = some (.cells arr t (lo, lo))) (hv : w.heap[vb]? = some (.cells varr vt (vlo, vlo)))
    (hs : arr.size = cap * 3) (ha : a < n) (hroom : n + 1 ≤ cap) (hcap : n ≤ 1000000)
    (htl : tl.length = (n - a) * 3) (hxl : xs.length = 3) (htc : ∀ j v, tl[j]? = some v → w.cell? ⟨b, a * 3 + j, none⟩ = some v) (hxc : ∀ j v, xs[j]? = some v → w.cell? ⟨vb, vo + j, none⟩ = some v) (h1t : ∀ v ∈ tl, one v) (h1x : ∀ v ∈ xs, one v) :
    Calls Tryz.prog 35 #[.slice (some ⟨b, 0, none⟩) n cap, .int .i64 a, .slice (some ⟨vb, vo, none⟩) 1 vc] w fun e w' =>
      e = .returned (.slice (some ⟨b, 0, none⟩) (n + 1) cap) ∧ w' = (w.drew.setRow b (layA arr ((a + 1) * 3) tl)).setRow b (layA (layA arr ((a + 1) * 3) tl) (a * 3) xs) := by
  have t22 := Tryz.underlying34
  have mixed : Tryz.prog.follows .mixedOrders = true := fol
  have hov : ∀ lb cb, (callFunc 75 #[.slice (some ⟨vb, vo, none⟩) 1 vc, .slice (some ⟨b, (a + 1) * 3, none⟩) lb cb]).run Tryz.prog w = .ok (.value (.bool false)) w := fun lb cb => overlaps_noW w hne hv hb (by omega)
  have hz2 : ¬ ((a : Int) = (n : Int)) := by omega
  have hw1 : IntKind.i64.wrap ((a : Int) + 1) = (a : Int) + 1 := by rw [IntKind.wrap_i64]; omega
  have hw2 : IntKind.i64.wrap ((n : Int) + 1) = (n : Int) + 1 := by rw [IntKind.wrap_i64]; omega
  have hbd : w.drew.heap[b]? = some (.cells arr t (lo, lo)) := hb
  have hA := layA_ok tl ((a + 1) * 3) arr (by omega)
  have hcp1 : ∀ ty dl sl dc sc, dl = n - a → sl = n + 1 - a → (Builtin.copy_ #[34, 34] ty #[.slice (some ⟨b, (a + 1) * 3, none⟩) dl dc, .slice (some ⟨b, a * 3, none⟩) sl sc]).run Tryz.prog w.drew = .ok (goInt (n - a : Nat)) (w.drew.setRow b (layA arr ((a + 1) * 3) tl)) := fun ty dl sl dc sc e1 e2 =>
    copy3W w.drew ty hbd ⟨b, a * 3, none⟩ sl sc (n - a) tl (by omega) htl (fun j v hj => by rw [addr_add]; exact htc j v hj) (by omega) h1t
  have hb2 : (w.drew.setRow b (layA arr ((a + 1) * 3) tl)).heap[b]? = some (.cells (layA arr ((a + 1) * 3) tl) t (lo, lo)) := setRow_heap _ _ _ _ _ _ hbd
  have hxc2 : ∀ j v, xs[j]? = some v → (w.drew.setRow b (layA arr ((a + 1) * 3) tl)).cell? ⟨vb, vo + j, none⟩ = some v := fun j v hj => (cell_same (setRow_other _ _ _ _ hne) _).trans (hxc j v hj)
  have hcp2 : ∀ ty dl dc, dl = n + 1 - a → (Builtin.copy_ #[34, 34] ty #[.slice (some ⟨b, a * 3, none⟩) dl dc, .slice (some ⟨vb, vo, none⟩) 1 vc]).run Tryz.prog (w.drew.setRow b (layA arr ((a + 1) * 3) tl)) = .ok (goInt (1 : Nat)) ((w.drew.setRow b (layA arr ((a + 1) * 3) tl)).setRow b (layA (layA arr ((a + 1) * 3) tl) (a * 3) xs)) := fun ty dl dc e1 =>
    copy3W (w.drew.setRow b (layA arr ((a + 1) * 3) tl)) ty hb2 ⟨vb, vo, none⟩ 1 vc 1 xs (by omega) (by omega) (fun j v hj => by rw [addr_add]; exact hxc2 j v hj) (by omega) h1x
  have hb1 : (0 : Int) ≤ (a : Int) + 1 := by omega
  have hin : a ≤ n := by omega
  have hc1 : ¬ (cap = a + 1) := by omega
  have hc2 : ¬ (cap = a) := by omega
  have hb3 : (a : Int) ≤ (n : Int) + 1 := by omega
  have hb4 : a ≤ n + 1 := by omega
  go_enter Tryz.func35, Tryz.ntmps35
  go_wp2_with (simp only [hov])
  go_region_law_o (refine step_copy_runI rfl _ _ 34 34 rfl _ _ (by simp [Act.eval, Act.put]) (by simp [Act.eval, Act.put]) (hcp1 _ _ _ _ _ rfl rfl) ?_)
  all_goals
    go_wp2
    go_ret
    exact ⟨rfl, rfl⟩
theorem infoEntW : ∃ i z, Tryz.prog.info? 51 = some i ∧ i.zero = some z ∧ i.size = 3 ∧ i.bytes = 32 ∧ z.cells.size = 3 := by
  have h1 : (Tryz.prog.info? 51).map (fun i => (i.size, i.bytes)) = some (3, 32) := by kernel_rfl
  have h2 : ((Tryz.prog.info? 51).bind (fun i => i.zero)).map (fun z => z.cells.size) = some 3 := by kernel_rfl
  cases hq : (Tryz.prog.info? 51) with
  | none => rw [hq] at h1; cases h1
  | some i =>
    rw [hq] at h1 h2
    cases hz : i.zero with
    | none => rw [Option.bind_some, hz] at h2; cases h2
    | some z =>
      rw [Option.bind_some, hz] at h2
      simp only [Option.map_some, Option.some.injEq, Prod.mk.injEq] at h1 h2
      exact ⟨i, z, rfl, hz, h1.1, h1.2, h2⟩
open Go.RowKit Go.Shelf in
set_option maxRecDepth 100000 in
theorem ins_growW (b n cap a vb vo vc : Nat) (hd tl xs : List Value) (w : World) (hbw : b < w.heap.size) (hvw : vb < w.heap.size)
    (ha : a < n) (hnc : n ≤ cap) (hroom : cap < n + 1) (hcap : n ≤ 1000000)
    (hhl : hd.length = a * 3) (htl : tl.length = (n - a) * 3) (hxl : xs.length = 3) (hhc : ∀ j v, hd[j]? = some v → w.cell? ⟨b, j, none⟩ = some v) (htc : ∀ j v, tl[j]? = some v → w.cell? ⟨b, a * 3 + j, none⟩ = some v) (hxc : ∀ j v, xs[j]? = some v → w.cell? ⟨vb, vo + j, none⟩ = some v) (h1t : ∀ v ∈ tl, one v) (h1x : ∀ v ∈ xs, one v) :
    Calls Tryz.prog 35 #[.slice (some ⟨b, 0, none⟩) n cap, .int .i64 a, .slice (some ⟨vb, vo, none⟩) 1 vc] w fun e w' =>
      ∃ G ROW, n + 1 ≤ G ∧ ROW.size = G * 3 ∧ (∀ k, k < a * 3 → ROW.getD k undef = hd.getD k undef) ∧ e = .returned (.slice (some ⟨w.heap.size, 0, none⟩) (n + 1) G) ∧ Pushed w w' (.cells (layA (layA ROW (a * 3) xs) ((a + 1) * 3) tl) 51 (0, 0)) := by
  have t22 := Tryz.underlying34
  have t3 := Tryz.underlying3
  have mixed : Tryz.prog.follows .mixedOrders = true := fol
  obtain ⟨i0, z0, hi0, hz0, hi1, hi2, hzs⟩ := infoEntW
  have hz2 : ¬ ((a : Int) = (n : Int)) := by omega
  have hz3 : (cap : Int) < (n : Int) + 1 := by omega
  have hw1 : IntKind.i64.wrap ((a : Int) + 1) = (a : Int) + 1 := by rw [IntKind.wrap_i64]; omega
  have hw2 : IntKind.i64.wrap ((n : Int) + 1) = (n : Int) + 1 := by rw [IntKind.wrap_i64]; omega
  have hw3 : IntKind.i64.wrap ((n : Int) + 1 - a) = (n : Int) + 1 - a := by rw [IntKind.wrap_i64]; omega
  have hb1 : (0 : Int) ≤ (a : Int) + 1 := by omega
  have hin : a ≤ n := by omega
  have hkk : (n : Int) + 1 - (a : Int) = ((n + 1 - a : Nat) : Int) := by omega
  have hik : a + (n + 1 - a) = n + 1 := by omega
  have hold : (Builtin.firstCells i0.size a (.slice (some ⟨b, 0, none⟩) a cap)).run Tryz.prog w.drew = .ok hd.toArray w.drew := by
    rw [hi1]
    exact run_firstCells_some w.drew 3 a ⟨b, 0, none⟩ a cap hd hhl (fun j v hj => by rw [addr_add, Nat.zero_add]; exact hhc j v hj)
  obtain ⟨G, hG⟩ : ∃ G, G = grownCap w (n + 1) cap 51 := ⟨_, rfl⟩
  obtain ⟨ROW, hROW⟩ : ∃ ROW : Array Value, ROW = hd.toArray ++ Builtin.zeroCells z0.cells (n + 1 - a) ++ Builtin.zeroCells z0.cells (G - (n + 1)) := ⟨_, rfl⟩
  have hGn : n + 1 ≤ G := by rw [hG]; exact grownCap_ge w _ _ _
  have hGi : ¬ (G = a) := by omega
  have hGim : ¬ (G = a + 1) := by omega
  have hci : ¬ (cap = a) := by omega
  have hrz : ∀ ty, (Builtin.append_ #[34, 3] ty #[.slice (some ⟨b, 0, none⟩) a cap, .int .i64 ((n : Int) + 1 - (a : Int))]).run Tryz.prog w =
      .ok (.slice (some ⟨w.heap.size, 0, none⟩) (n + 1) G) (w.drew.alloc (.cells ROW 51)) := fun ty => by
    have h := Lib.run_append_grow_zeros w 34 3 ty 51 i0 z0 .i64 .i64 t22 t3 hi0 hz0 (some ⟨b, 0, none⟩) a cap hd hold (n + 1 - a) (by omega) (by omega) (by omega) (by omega) (by rw [hi2]; omega) (by rw [hi2, hik]; exact growslice_fits hroom (by omega))
    rw [hik, ← hG, ← hROW] at h
    rw [hkk]
    exact h
  have hRs : ROW.size = G * 3 := by
    rw [hROW, Array.size_append, Array.size_append, size_zeroCells, size_zeroCells, hzs, List.size_toArray, hhl]; omega
  have hRh : ∀ k, k < a * 3 → ROW.getD k undef = hd.getD k undef := fun k hk => by
    rw [hROW]
    simp only [Array.getD_eq_getD_getElem?, List.getD_eq_getElem?_getD]
    rw [Array.getElem?_append, if_pos (by rw [Array.size_append, List.size_toArray, hhl]; omega), Array.getElem?_append, if_pos (by rw [List.size_toArray, hhl]; omega), List.getElem?_toArray]
  clear hROW hold
  have hN0 : (w.alloc (.cells ROW 51)).drew.heap[w.heap.size]? = some (.cells ROW 51 (0, 0)) := World.alloc_heap_new w _
  have hold2 : ∀ k, k < w.heap.size → (w.alloc (.cells ROW 51)).drew.heap[k]? = w.heap[k]? := fun k hk => RowKit.Below.heap_alloc w _ _ hk
  have hA := layA_ok xs (a * 3) ROW (by omega)
  have hcpA : ∀ ty dl dc, dl = n + 1 - a → (Builtin.copy_ #[34, 34] ty #[.slice (some ⟨w.heap.size, a * 3, none⟩) dl dc, .slice (some ⟨vb, vo, none⟩) 1 vc]).run Tryz.prog (w.alloc (.cells ROW 51)).drew = .ok (goInt (1 : Nat)) ((w.alloc (.cells ROW 51)).drew.setRow w.heap.size (layA ROW (a * 3) xs)) := fun ty dl dc e1 =>
    copy3W _ ty hN0 ⟨vb, vo, none⟩ 1 vc 1 xs (by omega) (by omega) (fun j v hj => by rw [addr_add]; exact (cell_same (hold2 _ hvw) _).trans (hxc j v hj)) (by omega) h1x
  have hN1 : ((w.alloc (.cells ROW 51)).drew.setRow w.heap.size (layA ROW (a * 3) xs)).drew.heap[w.heap.size]? = some (.cells (layA ROW (a * 3) xs) 51 (0, 0)) := setRow_heap _ _ _ _ _ _ hN0
  have hcpB : ∀ ty dl sl dc sc, dl = n - a → sl = n - a → (Builtin.copy_ #[34, 34] ty #[.slice (some ⟨w.heap.size, (a + 1) * 3, none⟩) dl dc, .slice (some ⟨b, a * 3, none⟩) sl sc]).run Tryz.prog ((w.alloc (.cells ROW 51)).drew.setRow w.heap.size (layA ROW (a * 3) xs)).drew = .ok (goInt (n - a : Nat)) (((w.alloc (.cells ROW 51)).drew.setRow w.heap.size (layA ROW (a * 3) xs)).drew.setRow w.heap.size (layA (layA ROW (a * 3) xs) ((a + 1) * 3) tl)) := fun ty dl sl dc sc e1 e2 =>
    copy3W _ ty hN1 ⟨b, a * 3, none⟩ sl sc (n - a) tl (by omega) htl (fun j v hj => by
      rw [addr_add]
      refine (cell_same ?_ _).trans (htc j v hj)
      exact (setRow_other _ _ _ _ (by omega)).trans (hold2 _ hbw)) (by rw [hA.1]; omega) h1t
  have hP : Pushed w (((w.alloc (.cells ROW 51)).drew.setRow w.heap.size (layA ROW (a * 3) xs)).drew.setRow w.heap.size (layA (layA ROW (a * 3) xs) ((a + 1) * 3) tl)) (.cells (layA (layA ROW (a * 3) xs) ((a + 1) * 3) tl) 51 (0, 0)) :=
    ⟨rfl, rfl, rfl, by simp, fun {c} hb => (setRow_other _ _ _ _ (by omega)).trans ((setRow_other _ _ _ _ (by omega)).trans (hold2 _ hb)), setRow_heap _ _ _ _ _ _ hN1⟩
  clear hA hN0 hN1 hold2 hkk hik hG hzs hi1 hi2 hz0 hi0
  go_enter Tryz.func35, Tryz.ntmps35
  go_wp2_with (first
    | (at_builtin; refine Lib.wpList_append_run _ rfl _ _ _ _ rfl _ _ rfl rfl _ _ (hrz _) ?_)
    | (at_builtin; refine wpList_copy_runI _ rfl _ _ 34 34 rfl _ _ rfl rfl (hcpA _ _ _ rfl) ?_))
  go_region_law_o (refine step_copy_runI rfl _ _ 34 34 rfl _ _ (by simp [Act.eval, Act.put]) (by simp [Act.eval, Act.put]) (hcpB _ _ _ _ _ rfl rfl) ?_)
  all_goals
    go_wp2
    go_ret
    exact ⟨G, ROW, hGn, hRs, hRh, rfl, hP⟩

theorem ins_semW {i j a : Nat} {D : List Ent} {x : Ent} (hij : i ≠ j) (hn : D.length ≤ 1000000) (ha : a < D.length) :
    FCall pg 35 [.vec (i + 9000) D.length, .int .i64 a, .vec (j + 9000) 1] [(i + 9000, .vec 3 D.length (lsF cEnt D)), (j + 9000, .vec 3 1 (lsF cEnt [x]))] (.vec (i + 9000) (D.length + 1)) [(i + 9000, .vec 3 (D.length + 1) (lsF cEnt (stK D x a))), (j + 9000, .vec 3 1 (lsF cEnt [x]))] := by
  intro S vals hs hh hl hr
  have ei : S.h (i + 9000) = some (.vec 3 D.length (lsF cEnt D)) := by rw [hh]; simp [hOf]
  have ej : S.h (j + 9000) = some (.vec 3 1 (lsF cEnt [x])) := by
    rw [hh]
    show upd _ (i + 9000) _ (j + 9000) = _
    rw [upd_ne _ _ (by omega)]; simp [hOf]
  match vals, hl with
  | [v0, v1, v2], _ =>
    have r0 : S.rep (.vec (i + 9000) D.length) v0 := hr 0 (by simp)
    have r1 : S.rep (.int .i64 a) v1 := hr 1 (by simp)
    have r2 : S.rep (.vec (j + 9000) 1) v2 := hr 2 (by simp)
    obtain rfl := inv_int r1
    obtain ⟨A0, m0, c0, g1, g2, g3⟩ := inv_vec r0
    have em := vec_len hs ei g1
    subst em
    obtain rfl := g3 rfl
    obtain ⟨A1, m1, c1, f1, f2, f3⟩ := inv_vec r2
    have em := vec_len hs ej f1
    subst em
    obtain rfl := f3 rfl
    obtain ⟨-, -, ⟨k3, _⟩ | ⟨b, cap, arr, tt, lo, hi, k3, k4, kc, k5, k6, k7, k8⟩⟩ := hs.blk _ _ ei
    · omega
    obtain ⟨-, -, ⟨l3, _⟩ | ⟨vb, vcap, varr, vt, vlo, vhi, l3, l4, lc, l5, l6, l7, l8⟩⟩ := hs.blk _ _ ej
    · omega
    obtain rfl : lo = hi := by rcases k7 with h | h; exact h; omega
    obtain rfl : vlo = vhi := by rcases l7 with h | h; exact h; omega
    have bi : blkOf (S.γ (i + 9000)) = some b := by rw [k3]; simp [blkOf]; omega
    have bj : blkOf (S.γ (j + 9000)) = some vb := by rw [l3]; simp [blkOf]; omega
    have si : (S.h (i + 9000)).isSome = true := by rw [ei]; rfl
    have sj : (S.h (j + 9000)).isSome = true := by rw [ej]; rfl
    have hne : vb ≠ b := fun e => by
      have := hs.inj (i + 9000) (j + 9000) b si sj bi (e ▸ bj)
      omega
    have h8x : ∀ q, q < 3 → RepC S.γ S.imm S.w ((cEnt.enc x).flat.getD q .any) (varr.getD q undef) := fun q hq => by
      have := l8 0 q (by omega) hq
      rwa [Nat.zero_mul, Nat.zero_add] at this
    have one1 : ∀ q, q < D.length * 3 → one (arr.getD q undef) := fun q hq => by
      have := (k8 (q / 3) (q % 3) (by omega) (by omega)).2
      rwa [show q / 3 * 3 + q % 3 = q by omega] at this
    have mm1 : D.length * 3 ≤ cap * 3 := Nat.mul_le_mul_right _ k4
    have mm2 : 3 ≤ vcap * 3 := by omega
    have htl : ((arr.toList.drop (a * 3)).take ((D.length - a) * 3)).length = (D.length - a) * 3 := by rw [List.length_take, List.length_drop, Array.length_toList (xs := arr)]; omega
    have hxl : ((varr.toList.drop 0).take 3).length = 3 := by rw [List.length_take, List.length_drop, Array.length_toList (xs := varr)]; omega
    have hhl : ((arr.toList.drop 0).take (a * 3)).length = a * 3 := by rw [List.length_take, List.length_drop, Array.length_toList (xs := arr)]; omega
    have htc : ∀ q v, ((arr.toList.drop (a * 3)).take ((D.length - a) * 3))[q]? = some v → S.w.cell? ⟨b, a * 3 + q, none⟩ = some v := fun q v h => by
      rw [cell_of_heap k5]; exact (at_tl h).1
    have hxc : ∀ q v, ((varr.toList.drop 0).take 3)[q]? = some v → S.w.cell? ⟨vb, 0 + q, none⟩ = some v := fun q v h => by
      rw [cell_of_heap l5]; exact (at_tl h).1
    have hhc : ∀ q v, ((arr.toList.drop 0).take (a * 3))[q]? = some v → S.w.cell? ⟨b, q, none⟩ = some v := fun q v h => by
      have := (at_tl h).1
      rw [Nat.zero_add] at this
      rw [cell_of_heap k5]; exact this
    have h1t : ∀ v ∈ (arr.toList.drop (a * 3)).take ((D.length - a) * 3), one v := fun v hv => by
      obtain ⟨q, hq, rfl⟩ := List.getElem_of_mem hv
      rw [htl] at hq
      have := one1 (a * 3 + q) (by omega)
      rw [← getD_tl hq (by omega), List.getD_eq_getElem?_getD, List.getElem?_eq_getElem (by rw [htl]; exact hq)] at this
      exact this
    have h1x : ∀ v ∈ (varr.toList.drop 0).take 3, one v := fun v hv => by
      obtain ⟨q, hq, rfl⟩ := List.getElem_of_mem hv
      rw [hxl] at hq
      have := (h8x q hq).2
      rw [← Nat.zero_add q, ← getD_tl hq (by omega), List.getD_eq_getElem?_getD, List.getElem?_eq_getElem (by rw [hxl]; exact hq)] at this
      exact this
    have hK : ∀ B, Abs.upd S.h (i + 9000) (some B) = hOf [(i + 9000, B), (j + 9000, .vec 3 1 (lsF cEnt [x]))] := fun B => by
      rw [hh]
      funext id
      simp only [hOf]
      by_cases e : id = i + 9000
      · subst e; rw [upd_same, upd_same]
      · rw [upd_ne _ _ e, upd_ne _ _ e, upd_ne _ _ e]
    have hlo : ∀ v id, hOf [(i + 9000, .vec 3 D.length (lsF cEnt D)), (j + 9000, .vec 3 1 (lsF cEnt [x]))] id = none → Abs.upd S.γ (i + 9000) v id = S.γ id := fun v id h => by
      by_cases e : id = i + 9000
      · subst e; simp [hOf] at h
      · rw [upd_ne _ _ e]
    have himm : ∀ w' : World, (∀ c, c < S.w.heap.size → c ≠ b → w'.heap[c]? = S.w.heap[c]?) → ∀ c, S.imm c → w'.heap[c]? = S.w.heap[c]? := fun w' hw c hc =>
      hw c (hs.immLt c hc) fun e => hs.disj b ⟨_, si, bi⟩ (e ▸ hc)
    generalize hT : (arr.toList.drop (a * 3)).take ((D.length - a) * 3) = T at htl htc h1t
    generalize hX : (varr.toList.drop 0).take 3 = X at hxl hxc h1x
    generalize hH : (arr.toList.drop 0).take (a * 3) = H at hhl hhc
    have tT : ∀ q, q < (D.length - a) * 3 → T.getD q undef = arr.getD (a * 3 + q) undef := fun q hq => by rw [← hT]; exact getD_tl hq (by omega)
    have tX : ∀ q, q < 3 → X.getD q undef = varr.getD q undef := fun q hq => by rw [← hX, getD_tl hq (by omega), Nat.zero_add]
    have tH : ∀ q, q < a * 3 → H.getD q undef = arr.getD q undef := fun q hq => by rw [← hH, getD_tl hq (by omega), Nat.zero_add]
    clear hT hX hH
    refine .inl ⟨by kernel_rfl, ?_⟩
    show Calls pg.prog _ #[S.γ (i + 9000), _, S.γ (j + 9000)] _ _
    rw [k3, l3]
    by_cases hroom : D.length + 1 ≤ cap
    · refine (ins_roomW b D.length cap a vb 0 vcap arr varr tt vt lo vlo T X S.w hne k5 l5 k6 ha hroom hn htl hxl htc hxc h1t h1x).mono ?_
      rintro e w' ⟨rfl, hw⟩
      obtain ⟨a1, a2⟩ := layA_ok T ((a + 1) * 3) arr (by omega)
      obtain ⟨a3, a4⟩ := layA_ok X (a * 3) (layA arr ((a + 1) * 3) T) (by omega)
      have hc : ∀ q, q < (D.length + 1) * 3 → (layA (layA arr ((a + 1) * 3) T) (a * 3) X).getD q undef = if q < a * 3 then arr.getD q undef else if q < (a + 1) * 3 then varr.getD (q - a * 3) undef else arr.getD (q - 3) undef := fun q hq => by
        rw [a4, a2]
        by_cases c1 : q < a * 3
        · rw [if_neg (show ¬ (a * 3 ≤ q ∧ q < a * 3 + X.length) by omega), if_neg (show ¬ ((a + 1) * 3 ≤ q ∧ q < (a + 1) * 3 + T.length) by omega), if_pos c1]
        · rw [if_neg c1]
          by_cases c2 : q < (a + 1) * 3
          · rw [if_pos (show a * 3 ≤ q ∧ q < a * 3 + X.length by omega), if_pos c2, tX _ (by omega)]
          · rw [if_neg (show ¬ (a * 3 ≤ q ∧ q < a * 3 + X.length) by omega), if_pos (show (a + 1) * 3 ≤ q ∧ q < (a + 1) * 3 + T.length by omega), if_neg c2, tT _ (by omega), show a * 3 + (q - (a + 1) * 3) = q - 3 by omega]
      have hsz : (layA (layA arr ((a + 1) * 3) T) (a * 3) X).size = cap * 3 := by rw [a3, a1, k6]
      generalize layA (layA arr ((a + 1) * 3) T) (a * 3) X = A2 at *
      have hb2 : w'.heap[b]? = some (.cells A2 tt (lo, lo)) := by rw [hw]; exact setRow_heap _ _ _ _ _ _ (setRow_heap _ _ _ _ _ _ k5)
      have ho : ∀ c, c < S.w.heap.size → c ≠ b → w'.heap[c]? = S.w.heap[c]? := fun c _ hcb => by
        rw [hw]; exact (setRow_other _ _ _ _ hcb).trans (setRow_other _ _ _ _ hcb)
      have hsize : w'.heap.size = S.w.heap.size := by rw [hw]; simp
      have h1 : w'.os = S.w.os := by rw [hw]; rfl
      have h2 : w'.tape = S.w.tape := by rw [hw]; rfl
      have h3 : w'.output = S.w.output := by rw [hw]; rfl
      clear hw
      obtain ⟨m1, m2⟩ := Sim.upd hs (fun _ => False) (i + 9000) (.slice (some ⟨b, 0, none⟩) (D.length + 1) cap) (.vec 3 (D.length + 1) (lsF cEnt (stK D x a))) w' h1 h2 h3 (by omega)
        (fun c hc hno => ho c hc fun e => hno ⟨si, e ▸ bi⟩) (fun c hc => .inl ⟨si, by rw [bi]; simp only [blkOf] at hc; split at hc <;> simp_all⟩)
        ⟨by decide, fun e he => rfl, .inr ⟨b, cap, A2, tt, lo, lo, upd_same _ _ _, hroom, kc, hb2, hsz, .inl rfl, fun e q he hq => ins_rep ha hc k8 h8x (himm w' ho) he hq⟩⟩
        (.inr (.inr ⟨_, _, _, _, _, _, k3, rfl, Nat.lt_succ_self _⟩))
      rw [hK] at m1 m2
      exact ⟨_, _, _, rfl, m1, m2, hlo _, .vec _ _ _ _ _ _ (upd_same _ _ _) (Nat.le_refl _) (fun _ => (upd_same _ _ _).symm) rfl⟩
    · refine (ins_growW b D.length cap a vb 0 vcap H T X S.w (hs.ownLt ⟨_, si, bi⟩) (hs.ownLt ⟨_, sj, bj⟩) ha k4 (by omega) hn hhl htl hxl hhc htc hxc h1t h1x).mono ?_
      rintro e w' ⟨G, ROW, hG, hRs, hRh, rfl, hP⟩
      obtain ⟨a1, a2⟩ := layA_ok X (a * 3) ROW (by omega)
      obtain ⟨a3, a4⟩ := layA_ok T ((a + 1) * 3) (layA ROW (a * 3) X) (by omega)
      have hc : ∀ q, q < (D.length + 1) * 3 → (layA (layA ROW (a * 3) X) ((a + 1) * 3) T).getD q undef = if q < a * 3 then arr.getD q undef else if q < (a + 1) * 3 then varr.getD (q - a * 3) undef else arr.getD (q - 3) undef := fun q hq => by
        rw [a4, a2]
        by_cases c1 : q < a * 3
        · rw [if_neg (show ¬ ((a + 1) * 3 ≤ q ∧ q < (a + 1) * 3 + T.length) by omega), if_neg (show ¬ (a * 3 ≤ q ∧ q < a * 3 + X.length) by omega), if_pos c1, hRh q c1, tH q c1]
        · rw [if_neg c1]
          by_cases c2 : q < (a + 1) * 3
          · rw [if_neg (show ¬ ((a + 1) * 3 ≤ q ∧ q < (a + 1) * 3 + T.length) by omega), if_pos (show a * 3 ≤ q ∧ q < a * 3 + X.length by omega), if_pos c2, tX _ (by omega)]
          · rw [if_pos (show (a + 1) * 3 ≤ q ∧ q < (a + 1) * 3 + T.length by omega), if_neg c2, tT _ (by omega), show a * 3 + (q - (a + 1) * 3) = q - 3 by omega]
      have hsz : (layA (layA ROW (a * 3) X) ((a + 1) * 3) T).size = G * 3 := by rw [a3, a1, hRs]
      generalize layA (layA ROW (a * 3) X) ((a + 1) * 3) T = A2 at *
      have ho : ∀ c, c < S.w.heap.size → c ≠ b → w'.heap[c]? = S.w.heap[c]? := fun c hc _ => hP.old hc
      obtain ⟨m1, m2⟩ := Sim.upd hs (fun _ => False) (i + 9000) (.slice (some ⟨S.w.heap.size, 0, none⟩) (D.length + 1) G) (.vec 3 (D.length + 1) (lsF cEnt (stK D x a))) w' hP.os hP.tape hP.output (by have := hP.size; omega)
        (fun c hc _ => hP.old hc) (fun c hc => .inr (by simp only [blkOf] at hc; split at hc <;> simp_all))
        ⟨by decide, fun e he => rfl, .inr ⟨S.w.heap.size, G, A2, _, 0, 0, upd_same _ _ _, hG, by omega, hP.new, hsz, .inl rfl, fun e q he hq => ins_rep ha hc k8 h8x (himm w' ho) he hq⟩⟩
        (.inr (.inr ⟨_, _, _, _, _, _, k3, rfl, Nat.lt_succ_self _⟩))
      rw [hK] at m1 m2
      exact ⟨_, _, _, rfl, m1, m2, hlo _, .vec _ _ _ _ _ _ (upd_same _ _ _) (Nat.le_refl _) (fun _ => (upd_same _ _ _).symm) rfl⟩
theorem conInsertW : FCon pg 35 ckInsert := by
  have hct := ctN_ok pg
  intro args bs q r bs' h hq
  replace h : ckInsertK args bs = some (q, r, bs') := h
  unfold ckInsertK at h
  split at h
  · cases h
    rename_i i n a j k f g
    refine ⟨rfl, Nat.le_refl _, ?_⟩
    obtain ⟨hij, rfl, hf, hg, hn, h0, h1⟩ := hq
    obtain ⟨a, rfl⟩ := Int.eq_ofNat_of_zero_le h0
    have hg1 : lsOf cEnt 1 g = [cEnt.dec (g 0)] := rfl
    have hk : k = (lsOf cEnt k f).length := (lsOf_len k f).symm
    show FCall pg _ [.vec (i + 9000) k, .int .i64 a, .vec (j + 9000) 1] [(i + 9000, .vec 3 k fun z => V.shift (f z)), (j + 9000, .vec 3 1 fun z => V.shift (g z))] (.vec (i + 9000) (k + 1)) [(i + 9000, .vec 3 (k + 1) (lsF cEnt (stK (lsOf cEnt k f) (cEnt.dec (g 0)) a))), (j + 9000, .vec 3 1 (lsF cEnt [cEnt.dec (g 0)]))]
    refine fcall_blk (hm := [(i + 9000, .vec 3 (lsOf cEnt k f).length (lsF cEnt (lsOf cEnt k f))), (j + 9000, .vec 3 1 (lsF cEnt [cEnt.dec (g 0)]))]) ⟨rfl, ⟨rfl, hk, fun z hz => by show V.shift (f z) = _; rw [hf.2 z hz]; rfl⟩, rfl, ⟨rfl, rfl, fun z hz => by
      show V.shift (g z) = _
      rw [hg.2 z hz, hg1]; rfl⟩, trivial⟩ ?_
    have hlen : (lsOf cEnt k f).length = k := lsOf_len k f
    generalize lsOf cEnt k f = D at hlen ⊢
    generalize cEnt.dec (g 0) = x
    subst hlen
    by_cases ha : a < D.length
    · exact ins_semW hij hn ha
    · obtain rfl : a = D.length := by omega
      refine fw35 (fun _ => false) [] rfl hct rfl (by simp) ?_ ?_ ?_
      · simp [hlIn, Blk.menIn, V.menInL, V.menIn, lsF, cEnt, V.flat, idsIn]
      · simp [V.menIn, idsIn]
      have hb1 : (i + 9000 = j + 9000) = False := eq_false (by omega)
      have hb2 : (j + 9000 = i + 9000) = False := eq_false (by omega)
      have hb3 : (i = j) = False := eq_false hij
      have hb4 : (j = i) = False := eq_false (Ne.symm hij)
      push_cast (config := { maxSteps := 10000000 }) [hb1, hb2, hb3, hb4]
      refine ⟨Nat.le_refl _, ⟨by omega, by omega⟩, fun z hz => ?_⟩
      have e : stK D x D.length = D ++ [x] := by unfold stK; rw [List.take_length, List.drop_length]
      rw [e]
      exact (LsI.app (c := cEnt) (k := D.length + 1) (LsI.ls D) (LsI.ls [x]) rfl).2 z hz
  · cases h

def ckAddF : Ck
  | [.agg [.sl n f, .sl m g, .int .i64 b, .int .i64 w], .agg [.str k, .int .i64 r, .int .i64 d]] => some (isFr n f ∧ m = 0 ∧ b = 1 ∧ w = 1 ∧ okE k = 0 ∧ r = 1 ∧ d = 0 ∧ n < 1000,
      .tup [.agg [.sl (putW ((lsOf cEnt n f).map (·.loc)) k).length (lsF cEnt ((putW ((lsOf cEnt n f).map (·.loc)) k).map wK)), .sl 0 g, .int .i64 1, .int .i64 1], .int .i64 0])
  | _ => none
theorem conAddF : Con pg 10 ckAddF := by
  have hct := (ctA_ok conCFr (ctA_ok conCWan (ctW_ok conOwnF (ctA_ok conBSW (ctF_ok conInsertW (ctN_ok _))))))
  intro args q r h hq
  unfold ckAddF at h
  split at h
  · cases h
    rename_i n f m g b w k r d
    obtain ⟨hfr, rfl, rfl, rfl, hk, rfl, rfl, hn⟩ := hq
    obtain ⟨hi, K, hK, hE⟩ := hfr
    refine pcall_args (args' := [.agg [.sl (lsOf cEnt n f).length (lsF cEnt (lsOf cEnt n f)), .sl 0 g, .int .i64 1, .int .i64 1], .agg [.str k, .int .i64 1, .int .i64 0]]) ⟨VLe.agg ⟨hi.vle, VLe.refl _, VLe.refl _, VLe.refl _, trivial⟩, VLe.refl _, trivial⟩ ?_
    rw [← lsOf_len (c := cEnt) n f] at hn
    have hloc : (lsOf cEnt n f).map (·.loc) = K := by
      rw [hE, List.map_map]
      exact List.map_id K
    rw [hloc]
    have hif : isFr (lsOf cEnt n f).length (lsF cEnt (lsOf cEnt n f)) := ⟨(LsI.ls _).is, K, hK, by rw [(LsI.ls _).of]; exact hE⟩
    generalize lsOf cEnt n f = L at *
    refine w10 (fun d => decide (d = 71)) [.frz 23] rfl hct rfl rfl ?_
    push_cast (config := { maxSteps := 10000000 })
    rw [hloc]
    have hKL : K.length = L.length := by rw [hE, List.length_map]
    have hat : ∀ i, i < L.length → L.getD i noEnt = wK (K.getD i []) := fun i h => by rw [hE]; exact wK_at K (by omega)
    have hPle := posW_le K k
    have hmem := memW_at (k := k) hK.srt
    refine ⟨hif, hk, by omega, rfl, ⟨by omega, hK.srt⟩, fun hin => ?_, fun hno => ⟨fun h => by omega, fun _ => ⟨⟨(LsI.ls (c := cEnt) L).is, ?_, by omega, by omega⟩, ?_, fun i hi => ?_⟩⟩⟩
    · obtain ⟨hp1, hp2⟩ := hmem.2 hin
      have eput : putW K k = K := by unfold putW; rw [if_pos hin]
      rw [eput]
      generalize posW K k = P at *
      have hx := hat P (by omega)
      rw [hp2] at hx
      have hself : setF (lsF cEnt L) P (V.agg [V.str (L.getD P noEnt).loc, V.int IntKind.i64 (min (L.getD P noEnt).day 1), V.int IntKind.i64 (L.getD P noEnt).wt]) = lsF cEnt L := by
        have e : V.agg [V.str (L.getD P noEnt).loc, V.int IntKind.i64 (min (L.getD P noEnt).day 1), V.int IntKind.i64 (L.getD P noEnt).wt] = lsF cEnt L P := by
          show _ = V.agg [V.str (L.getD P noEnt).loc, V.int IntKind.i64 (L.getD P noEnt).day, V.int IntKind.i64 (L.getD P noEnt).wt]
          rw [hx]; rfl
        rw [e]
        exact setF_self (lsF cEnt L) P
      rw [hself]
      have hself2 : setF (lsF cEnt L) P (V.agg [V.str (L.getD P noEnt).loc, V.int IntKind.i64 (L.getD P noEnt).day, V.int IntKind.i64 (min (L.getD P noEnt).wt 0)]) = lsF cEnt L := by
        have e : V.agg [V.str (L.getD P noEnt).loc, V.int IntKind.i64 (L.getD P noEnt).day, V.int IntKind.i64 (min (L.getD P noEnt).wt 0)] = lsF cEnt L P := by
          show _ = V.agg [V.str (L.getD P noEnt).loc, V.int IntKind.i64 (L.getD P noEnt).day, V.int IntKind.i64 (L.getD P noEnt).wt]
          rw [hx]; rfl
        rw [e]
        exact setF_self (lsF cEnt L) P
      have hl : P < L.length := by omega
      refine ⟨hl, hl, hl, hl, hl, hl, hl, hl, fun i hi => ?_, hKL.symm, fun i hi => ?_⟩
      · show (setF (lsF cEnt L) P (V.agg [V.str (L.getD P noEnt).loc, V.int IntKind.i64 (L.getD P noEnt).day, V.int IntKind.i64 (min (L.getD P noEnt).wt 0)]) i).isPure = true
        rw [hself2]; rfl
      · show setF (lsF cEnt L) P (V.agg [V.str (L.getD P noEnt).loc, V.int IntKind.i64 (L.getD P noEnt).day, V.int IntKind.i64 (min (L.getD P noEnt).wt 0)]) i = _
        rw [hself2, ← hE]; rfl
    · exact LsI.is (l := [wK k]) ⟨rfl, fun j hj => by
        obtain rfl : j = 0 := by omega
        rfl⟩
    · unfold putW
      rw [if_neg hno, List.length_append, List.length_take, List.length_cons, List.length_drop]; omega
    · rw [show (lsOf cEnt L.length fun i => V.agg [V.str (L.getD i noEnt).loc, V.int IntKind.i64 (L.getD i noEnt).day, V.int IntKind.i64 (L.getD i noEnt).wt]) = L from (LsI.ls (c := cEnt) L).of]
      rw [wK_put hno, ← hE]; rfl
  · cases h
attribute [push_cast] ckAddF

theorem idxC_has (l : List (List UInt8)) (w : List UInt8) : decide (0 ≤ idxL l w) = l.contains w := by
  unfold idxL
  cases h : l.findIdx? (· == w) with
  | none =>
    rw [List.findIdx?_eq_none_iff] at h
    have : l.contains w = false := by
      rw [Bool.eq_false_iff]
      intro hc
      rw [List.contains_iff_mem] at hc
      have := h w hc
      simp at this
    rw [this]; rfl
  | some k =>
    rw [List.findIdx?_eq_some_iff_getElem] at h
    obtain ⟨hk, h1, _⟩ := h
    have : l.contains w = true := by
      rw [List.contains_iff_mem]
      have e := beq_iff_eq.1 h1
      rw [← e]; exact List.getElem_mem hk
    rw [this]
    exact decide_eq_true (Int.natCast_nonneg k)
def ckCtnS : Ck
  | [.sl n f, .str w] => some (isLs cStr n f ∧ n ≤ 4611686018427387904, .bool ((lsOf cStr n f).contains w))
  | _ => none
theorem conCtnS : Con pg 11 ckCtnS := by
  have hct := (ctA_ok conIndexStr (ctN_ok _))
  intro args q r h hq
  unfold ckCtnS at h
  split at h
  · cases h
    rename_i n f w
    refine w11 (fun _ => false) [] rfl hct rfl rfl ?_
    push_cast (config := { maxSteps := 10000000 })
    exact ⟨hq, idxC_has _ _⟩
  · cases h
attribute [push_cast] ckCtnS

/- the rules for an agent -/
def agE (r : Rob) (a : List UInt8) : Int := if checkRobL r = 0 then (if agentL a = true ∧ a ≠ [42] then 0 else 5) else checkRobL r
def rulG (G : List Grp) (a : List UInt8) : List Rul := (G.filter fun g => g.ag.contains a).flatMap fun g => g.ru
def delGp (G : List Grp) (a : List UInt8) : Int := (G.filter fun g => g.ag.contains a).foldl (fun d g => max d g.de) (-1)
def namG (G : List Grp) (a : List UInt8) : Bool := G.any fun g => g.ag.contains a
def rulesL (r : Rob) (a : List UInt8) : List Rul × Int := if namG r.gr a = true then (rulG r.gr a, delGp r.gr a) else (rulG r.gr [42], delGp r.gr [42])
theorem take_s {α : Type} (l : List α) (d : α) {i : Nat} (h : i < l.length) : l.take (i + 1) = l.take i ++ [l.getD i d] := by
  rw [List.getD_eq_getElem?_getD, List.getElem?_eq_getElem h, List.take_succ_eq_append_getElem h]; rfl
theorem rulG_s (G : List Grp) (a : List UInt8) {i : Nat} (h : i < G.length) : rulG (G.take (i + 1)) a = if (G.getD i noGrp).ag.contains a = true then rulG (G.take i) a ++ (G.getD i noGrp).ru else rulG (G.take i) a := by
  rw [take_s G noGrp h]
  unfold rulG
  rw [List.filter_append, List.flatMap_append]
  cases hc : (G.getD i noGrp).ag.contains a
  · rw [List.filter_cons_of_neg (by rw [hc]; simp)]; simp
  · rw [List.filter_cons_of_pos (by rw [hc])]; simp
theorem delG_s (G : List Grp) (a : List UInt8) {i : Nat} (h : i < G.length) : delGp (G.take (i + 1)) a = if (G.getD i noGrp).ag.contains a = true then max (delGp (G.take i) a) (G.getD i noGrp).de else delGp (G.take i) a := by
  rw [take_s G noGrp h]
  unfold delGp
  rw [List.filter_append, List.foldl_append]
  cases hc : (G.getD i noGrp).ag.contains a
  · rw [List.filter_cons_of_neg (by rw [hc]; simp)]; simp
  · rw [List.filter_cons_of_pos (by rw [hc])]; simp
theorem namG_s (G : List Grp) (a : List UInt8) {i : Nat} (h : i < G.length) : namG (G.take (i + 1)) a = (namG (G.take i) a || (G.getD i noGrp).ag.contains a) := by
  rw [take_s G noGrp h]
  unfold namG
  rw [List.any_append]; simp
theorem rulG_0 (G : List Grp) (a : List UInt8) : rulG (G.take 0) a = [] := rfl
theorem nam_no {G : List Grp} {a : List UInt8} (h : namG G a = false) : rulG G a = [] ∧ delGp G a = -1 := by
  have e : (G.filter fun g => g.ag.contains a) = [] := by
    rw [List.filter_eq_nil_iff]
    intro g hg hc
    unfold namG at h
    rw [List.any_eq_false] at h
    exact h g hg hc
  unfold rulG delGp
  rw [e]; exact ⟨rfl, rfl⟩
/- what is right has its bounds -/
theorem grp_ok {g : Grp} (h : checkGrpL g = 0) : 1 ≤ g.ag.length ∧ g.ag.length ≤ 50 ∧ (∀ s ∈ g.ag, agentL s = true) ∧ g.ru.length ≤ 200 ∧ (∀ r ∈ g.ru, patOk r.pa = true) ∧ -1 ≤ g.de ∧ g.de ≤ 99999 := by
  unfold checkGrpL at h
  by_cases h1 : g.ag.length = 0
  · rw [if_pos h1] at h; cases h
  rw [if_neg h1] at h
  by_cases h2 : 50 < g.ag.length
  · rw [if_pos h2] at h; cases h
  rw [if_neg h2] at h
  by_cases h3 : g.ag.all agentL = false
  · rw [if_pos h3] at h; cases h
  rw [if_neg h3] at h
  by_cases h4 : 200 < g.ru.length
  · rw [if_pos h4] at h; cases h
  rw [if_neg h4] at h
  by_cases h5 : (g.ru.all fun r => patOk r.pa) = false
  · rw [if_pos h5] at h; cases h
  rw [if_neg h5] at h
  by_cases h6 : g.de < -1 ∨ 99999 < g.de
  · rw [if_pos h6] at h; cases h
  have h3 : g.ag.all agentL = true := by simpa using h3
  have h5 : (g.ru.all fun r => patOk r.pa) = true := by simpa using h5
  exact ⟨by omega, by omega, List.all_eq_true.1 h3, by omega, List.all_eq_true.1 h5, by omega, by omega⟩
theorem grpsE_ok : ∀ {G : List Grp}, grpsE G = 0 → ∀ g ∈ G, checkGrpL g = 0
  | g :: t, h, x, hx => by
    rw [grpsE] at h
    by_cases h1 : checkGrpL g = 0
    · rw [if_pos h1] at h
      rcases List.mem_cons.1 hx with rfl | hx
      · exact h1
      · exact grpsE_ok h x hx
    · rw [if_neg h1] at h; exact absurd h h1
theorem rob_ok {r : Rob} (h : checkRobL r = 0) : r.gr.length ≤ 100 ∧ (∀ g ∈ r.gr, checkGrpL g = 0) ∧ r.ma.length ≤ 100 ∧ ∀ s ∈ r.ma, adrB s = true := by
  unfold checkRobL at h
  by_cases h1 : 100 < r.gr.length
  · rw [if_pos h1] at h; cases h
  rw [if_neg h1] at h
  by_cases h2 : grpsE r.gr = 0
  · rw [if_pos h2] at h
    by_cases h3 : 100 < r.ma.length
    · rw [if_pos h3] at h; cases h
    rw [if_neg h3] at h
    by_cases h4 : r.ma.all adrB = true
    · exact ⟨by omega, grpsE_ok h2, by omega, List.all_eq_true.1 h4⟩
    · rw [if_neg h4] at h; cases h
  · rw [if_neg h2] at h; exact absurd h h2
theorem pat_len {s : List UInt8} (h : patOk s = true) : s.length ≤ 300 := ((patOk_iff s).1 h).2.1
theorem mem_at {α : Type} {l : List α} {d : α} {i : Nat} (h : i < l.length) : l.getD i d ∈ l := by
  rw [List.getD_eq_getElem?_getD, List.getElem?_eq_getElem h]; exact List.getElem_mem h
theorem rulG_b {G : List Grp} (a : List UInt8) (h : ∀ g ∈ G, checkGrpL g = 0) : (rulG G a).length ≤ 200 * G.length ∧ (∀ r ∈ rulG G a, patOk r.pa = true) ∧ -1 ≤ delGp G a ∧ delGp G a ≤ 99999 := by
  refine ⟨?_, fun r hr => ?_, ?_⟩
  · induction G with
    | nil => simp [rulG]
    | cons g t ih =>
      have := ih fun x hx => h x (List.mem_cons_of_mem _ hx)
      have h2 := (grp_ok (h g (by simp))).2.2.2.1
      unfold rulG at *
      rw [List.filter_cons]
      split
      · simp only [List.flatMap_cons, List.length_append, List.length_cons]; omega
      · simp only [List.length_cons]; omega
  · unfold rulG at hr
    obtain ⟨g, hg, hr⟩ := List.mem_flatMap.1 hr
    exact (grp_ok (h g (List.mem_filter.1 hg).1)).2.2.2.2.1 r hr
  · unfold delGp
    have key : ∀ (L : List Grp) (d : Int), (∀ g ∈ L, checkGrpL g = 0) → -1 ≤ d → d ≤ 99999 → -1 ≤ L.foldl (fun d g => max d g.de) d ∧ L.foldl (fun d g => max d g.de) d ≤ 99999 := by
      intro L
      induction L with
      | nil => exact fun d _ h1 h2 => ⟨h1, h2⟩
      | cons g t ih =>
        intro d hL h1 h2
        have := (grp_ok (hL g (by simp))).2.2.2.2.2
        exact ih (max d g.de) (fun x hx => hL x (List.mem_cons_of_mem _ hx)) (by omega) (by omega)
    exact key _ _ (fun g hg => h g (List.mem_filter.1 hg).1) (by omega) (by omega)
theorem rules_b {r : Rob} (a : List UInt8) (h : checkRobL r = 0) : (rulesL r a).1.length ≤ 20000 ∧ (∀ x ∈ (rulesL r a).1, patOk x.pa = true) ∧ -1 ≤ (rulesL r a).2 ∧ (rulesL r a).2 ≤ 99999 := by
  obtain ⟨h1, h2, -, -⟩ := rob_ok h
  have k1 := rulG_b a h2
  have k2 := rulG_b [42] h2
  unfold rulesL
  split
  · exact ⟨by have := k1.1; show (rulG r.gr a).length ≤ _; omega, k1.2⟩
  · exact ⟨by have := k2.1; show (rulG r.gr [42]).length ≤ _; omega, k2.2⟩
/- the rule that decides -/
def betB (l : List Rul) (b : Int) (i : Nat) : Bool := decide (b < 0) || decide ((l.getD b.toNat noRul).pa.length < (l.getD i noRul).pa.length) || (decide ((l.getD i noRul).pa.length = (l.getD b.toNat noRul).pa.length) && (l.getD i noRul).al && !(l.getD b.toNat noRul).al)
def decG (l : List Rul) (p : List UInt8) : Nat → Int
  | 0 => -1
  | i + 1 => if matchesB (l.getD i noRul).pa p = true ∧ betB l (decG l p i) i = true then (i : Int) else decG l p i
def decL (l : List Rul) (p : List UInt8) : Int := decG l p l.length
theorem decG_b (l : List Rul) (p : List UInt8) : ∀ n, -1 ≤ decG l p n ∧ decG l p n < n
  | 0 => ⟨Int.le_refl _, by show (-1 : Int) < 0; omega⟩
  | n + 1 => by
    have := decG_b l p n
    rw [decG]
    split <;> omega
/- what is permitted -/
def wRobots : List UInt8 := [47, 114, 111, 98, 111, 116, 115, 46, 116, 120, 116]
def perL (r : Rob) (a p : List UInt8) : Bool := p == wRobots || (decide (decL (rulesL r a).1 p < 0) || ((rulesL r a).1.getD (decL (rulesL r a).1 p).toNat noRul).al)
def adE (r : Rob) (a : List UInt8) (x : Adr) : Int := if agE r a = 0 then checkAdrL x else agE r a

def ckAgE : Ck
  | [x, .str a] => some (isC cRob x ∧ robOk (cRob.dec x) ∧ a.length ≤ 140737488355328, .int .i64 (agE (cRob.dec x) a))
  | _ => none
theorem conAgE : Con pg 26 ckAgE := by
  have hct := (ctA_ok conCheckRob (ctA_ok conIsAgent (ctN_ok _)))
  intro args q r h hq
  unfold ckAgE at h
  split at h
  · cases h
    rename_i x a
    refine pcall_args (args' := [cRob.enc (cRob.dec x), .str a]) ⟨hq.1, VLe.refl _, trivial⟩ ?_
    obtain ⟨-, ok, ha⟩ := hq
    generalize cRob.dec x = r at ok ⊢
    refine w26 (fun _ => false) [] rfl hct rfl rfl ?_
    push_cast (config := { maxSteps := 10000000 })
    unfold agE
    refine ⟨ok, fun h => by rw [if_neg h], fun h => ⟨ha, fun h2 => ?_, fun h2 => ?_⟩⟩
    · rw [if_pos h, if_neg ?_]
      rintro ⟨x, y⟩
      rcases h2 with h2 | h2
      · rw [h2] at x; cases x
      · exact y h2
    · rw [if_pos h, if_pos h2]
  · cases h
attribute [push_cast] ckAgE
def ckRulesS : Ck
  | [x, .str a] => some (isC cRob x ∧ robOk (cRob.dec x) ∧ checkRobL (cRob.dec x) = 0 ∧ a = [42], .tup [.sl (rulesL (cRob.dec x) [42]).1.length (lsF cRul (rulesL (cRob.dec x) [42]).1), .int .i64 (rulesL (cRob.dec x) [42]).2])
  | _ => none
theorem conRulesS : Con pg 64 ckRulesS := by
  have hct := (ctA_ok conCtnS (ctN_ok _))
  intro args q r h hq
  unfold ckRulesS at h
  split at h
  · cases h
    rename_i x a
    refine pcall_args (args' := [cRob.enc (cRob.dec x), .str a]) ⟨hq.1, VLe.refl _, trivial⟩ ?_
    obtain ⟨-, ok, hc, rfl⟩ := hq
    generalize cRob.dec x = r at ok hc ⊢
    refine w64 (fun _ => false) [.frz 8000] rfl hct rfl rfl ?_
    push_cast (config := { maxSteps := 10000000 })
    obtain ⟨o1, o2, o3, o4⟩ := ok
    obtain ⟨c1, c2, -, -⟩ := rob_ok hc
    have eR : rulesL r [42] = (rulG r.gr [42], delGp r.gr [42]) := by unfold rulesL; split <;> rfl
    rw [eR]
    refine LoopW.adj ⟨hct, fol⟩ (by kernel_rfl) [.nv 6 8000 2 (lsF cRul [])] (fun i : Nat => [(1, .str [42]), (2, .ptr 2 0), (6, .vec 8000 (rulG (r.gr.take i) [42]).length), (7, .int .i64 (delGp (r.gr.take i) [42])), (8, .bool (namG (r.gr.take i) [42])), (12, .sl r.gr.length (lsF cGrp r.gr)), (13, .int .i64 r.gr.length), (14, .int .i64 i)]) (fun i => [(2, .cells [.sl r.gr.length (lsF cGrp r.gr), .sl r.ma.length (lsF cStr r.ma)]), (8000, .vec 2 (rulG (r.gr.take i) [42]).length (lsF cRul (rulG (r.gr.take i) [42])))]) (fun i => i ≤ r.gr.length) (fun i => r.gr.length - i) 0 ?_ fun i hi => ?_
    · push_cast (config := { maxSteps := 10000000 })
      exact ⟨Nat.zero_le _, ⟨rfl, rfl, rfl⟩, rfl⟩
    · push_cast (config := { maxSteps := 10000000 })
      refine ⟨fun hlt => ?_, fun hge => ?_⟩
      · have hg := o2 _ (mem_at hlt (d := noGrp))
        have hk := grp_ok (c2 _ (mem_at hlt (d := noGrp)))
        have tb := rulG_b (G := r.gr.take i) [42] fun g hg => c2 g (List.mem_of_mem_take hg)
        have hk2 := hk.2.2.2.1
        have tb2 := tb.1
        have tl : (r.gr.take i).length ≤ 100 := by rw [List.length_take]; omega
        have e1 := rulG_s r.gr [42] hlt
        have e2 := delG_s r.gr [42] hlt
        have e3 := namG_s r.gr [42] hlt
        refine ⟨hlt, by have := hg.1; omega, fun h => ?_, fun h => ?_⟩
        · rw [if_pos h] at e1 e2
          rw [h, Bool.or_true] at e3
          refine ⟨⟨by omega, by omega⟩, by omega, i + 1, by omega, by omega, ⟨by rw [e1, List.length_append], e2.symm, e3.symm, by omega⟩, by rw [e1, List.length_append], fun j hj => ?_⟩
          rw [e1]
          exact (LsI.app (c := cRul) (f := lsF cRul (rulG (r.gr.take i) [42])) (g := lsF cRul (r.gr.getD i noGrp).ru) (LsI.ls _) (LsI.ls _) rfl).2 j hj
        · rw [if_neg (by rw [h]; simp)] at e1 e2
          rw [h, Bool.or_false] at e3
          exact ⟨by omega, i + 1, by omega, by omega, ⟨by rw [e1], e2.symm, e3.symm, by omega⟩, by rw [e1], fun j hj => by rw [e1]⟩
      · obtain rfl : i = r.gr.length := by omega
        rw [List.take_length]
        exact ⟨⟨rfl, fun _ _ => rfl⟩, rfl⟩
  · cases h
attribute [push_cast] ckRulesS
def ckRules : Ck
  | [x, .str a] => some (isC cRob x ∧ robOk (cRob.dec x) ∧ checkRobL (cRob.dec x) = 0, .tup [.sl (rulesL (cRob.dec x) a).1.length (lsF cRul (rulesL (cRob.dec x) a).1), .int .i64 (rulesL (cRob.dec x) a).2])
  | _ => none
theorem conRules : Con pg 64 ckRules := by
  have hct := (ctA_ok conCtnS (ctA_ok conRulesS (ctN_ok _)))
  intro args q r h hq
  unfold ckRules at h
  split at h
  · cases h
    rename_i x a
    refine pcall_args (args' := [cRob.enc (cRob.dec x), .str a]) ⟨hq.1, VLe.refl _, trivial⟩ ?_
    obtain ⟨-, ok, hc⟩ := hq
    generalize cRob.dec x = r at ok hc ⊢
    refine w64 (fun _ => false) [.frz 8000] rfl hct rfl rfl ?_
    push_cast (config := { maxSteps := 10000000 })
    obtain ⟨o1, o2, o3, o4⟩ := ok
    obtain ⟨c1, c2, -, -⟩ := rob_ok hc
    refine LoopW.adj ⟨hct, fol⟩ (by kernel_rfl) [.nv 6 8000 2 (lsF cRul [])] (fun i : Nat => [(1, .str a), (2, .ptr 2 0), (6, .vec 8000 (rulG (r.gr.take i) a).length), (7, .int .i64 (delGp (r.gr.take i) a)), (8, .bool (namG (r.gr.take i) a)), (12, .sl r.gr.length (lsF cGrp r.gr)), (13, .int .i64 r.gr.length), (14, .int .i64 i)]) (fun i => [(2, .cells [.sl r.gr.length (lsF cGrp r.gr), .sl r.ma.length (lsF cStr r.ma)]), (8000, .vec 2 (rulG (r.gr.take i) a).length (lsF cRul (rulG (r.gr.take i) a)))]) (fun i => i ≤ r.gr.length) (fun i => r.gr.length - i) 0 ?_ fun i hi => ?_
    · push_cast (config := { maxSteps := 10000000 })
      exact ⟨Nat.zero_le _, ⟨rfl, rfl, rfl⟩, rfl⟩
    · push_cast (config := { maxSteps := 10000000 })
      refine ⟨fun hlt => ?_, fun hge => ?_⟩
      · have hg := o2 _ (mem_at hlt (d := noGrp))
        have hk := grp_ok (c2 _ (mem_at hlt (d := noGrp)))
        have tb := rulG_b (G := r.gr.take i) a fun g hg => c2 g (List.mem_of_mem_take hg)
        have hk2 := hk.2.2.2.1
        have tb2 := tb.1
        have tl : (r.gr.take i).length ≤ 100 := by rw [List.length_take]; omega
        have e1 := rulG_s r.gr a hlt
        have e2 := delG_s r.gr a hlt
        have e3 := namG_s r.gr a hlt
        refine ⟨hlt, by have := hg.1; omega, fun h => ?_, fun h => ?_⟩
        · rw [if_pos h] at e1 e2
          rw [h, Bool.or_true] at e3
          refine ⟨⟨by omega, by omega⟩, by omega, i + 1, by omega, by omega, ⟨by rw [e1, List.length_append], e2.symm, e3.symm, by omega⟩, by rw [e1, List.length_append], fun j hj => ?_⟩
          rw [e1]
          exact (LsI.app (c := cRul) (f := lsF cRul (rulG (r.gr.take i) a)) (g := lsF cRul (r.gr.getD i noGrp).ru) (LsI.ls _) (LsI.ls _) rfl).2 j hj
        · rw [if_neg (by rw [h]; simp)] at e1 e2
          rw [h, Bool.or_false] at e3
          exact ⟨by omega, i + 1, by omega, by omega, ⟨by rw [e1], e2.symm, e3.symm, by omega⟩, by rw [e1], fun j hj => by rw [e1]⟩
      · obtain rfl : i = r.gr.length := by omega
        rw [List.take_length]
        refine ⟨fun h => ⟨⟨⟨o1, o2, o3, o4⟩, hc⟩, ?_⟩, fun h => ?_⟩
        · have e : rulesL r a = rulesL r [42] := by
            unfold rulesL
            rw [if_neg (by rw [h.1]; simp)]
            split <;> rfl
          rw [e]
          exact ⟨⟨rfl, fun _ _ => rfl⟩, rfl⟩
        · have e : rulesL r a = (rulG r.gr a, delGp r.gr a) := by
            unfold rulesL
            by_cases hn : namG r.gr a = true
            · rw [if_pos hn]
            · rw [if_neg hn, h (by simpa using hn)]
          rw [e]
          exact ⟨⟨rfl, fun _ _ => rfl⟩, rfl⟩
  · cases h
attribute [push_cast] ckRules
def ckDec : Ck
  | [.sl n f, .str p] => some (isLs cRul n f ∧ n ≤ 20000 ∧ (∀ x ∈ lsOf cRul n f, patOk x.pa = true) ∧ p.length ≤ 1048000, .int .i64 (decL (lsOf cRul n f) p))
  | _ => none
theorem conDec : Con pg 65 ckDec := by
  have hct := (ctA_ok conMatch (ctN_ok _))
  intro args q r h hq
  unfold ckDec at h
  split at h
  · cases h
    rename_i n f p
    refine pcall_args (args' := [.sl (lsOf cRul n f).length (lsF cRul (lsOf cRul n f)), .str p]) ⟨isLs.vle hq.1, VLe.refl _, trivial⟩ ?_
    obtain ⟨hL, hn, hp, hl⟩ := hq
    have hlen : (lsOf cRul n f).length = n := lsOf_len n f
    rw [← hlen] at hn
    generalize lsOf cRul n f = l at hn hp ⊢
    refine w65 (fun _ => false) [] rfl hct rfl rfl ?_
    push_cast (config := { maxSteps := 10000000 })
    refine LoopW.adj ⟨hct, fol⟩ (by kernel_rfl) [] (fun i : Nat => [(0, .sl l.length (lsF cRul l)), (1, .str p), (5, .int .i64 (decG l p i)), (8, .sl l.length (lsF cRul l)), (9, .int .i64 l.length), (10, .int .i64 i)]) (fun _ => []) (fun i => i ≤ l.length) (fun i => l.length - i) 0 ?_ fun i hi => ?_
    · push_cast (config := { maxSteps := 10000000 })
      exact ⟨Nat.zero_le _, rfl⟩
    · push_cast (config := { maxSteps := 10000000 })
      have db := decG_b l p i
      refine ⟨fun hlt => ?_, fun hge => ?_⟩
      · have hpt := pat_len (hp _ (mem_at hlt (d := noRul)))
        have eD : decG l p (i + 1) = if matchesB (l.getD i noRul).pa p = true ∧ betB l (decG l p i) i = true then (i : Int) else decG l p i := rfl
        have eB : betB l (decG l p i) i = true ↔ (decG l p i < 0 ∨ (l.getD (decG l p i).toNat noRul).pa.length < (l.getD i noRul).pa.length) ∨ ((l.getD i noRul).pa.length = (l.getD (decG l p i).toNat noRul).pa.length ∧ (l.getD i noRul).al = true) ∧ (l.getD (decG l p i).toNat noRul).al = false := by
          unfold betB
          simp only [Bool.or_eq_true, Bool.and_eq_true, decide_eq_true_eq, Bool.not_eq_true']
        have eY : matchesB (l.getD i noRul).pa p = true → ((decG l p i < 0 ∨ (l.getD (decG l p i).toNat noRul).pa.length < (l.getD i noRul).pa.length) ∨ ((l.getD i noRul).pa.length = (l.getD (decG l p i).toNat noRul).pa.length ∧ (l.getD i noRul).al = true) ∧ (l.getD (decG l p i).toNat noRul).al = false) → (i : Int) = decG l p (i + 1) := fun h1 h2 => by rw [eD, if_pos ⟨h1, eB.2 h2⟩]
        have eN : (matchesB (l.getD i noRul).pa p = false ∨ ¬ ((decG l p i < 0 ∨ (l.getD (decG l p i).toNat noRul).pa.length < (l.getD i noRul).pa.length) ∨ ((l.getD i noRul).pa.length = (l.getD (decG l p i).toNat noRul).pa.length ∧ (l.getD i noRul).al = true) ∧ (l.getD (decG l p i).toNat noRul).al = false)) → decG l p i = decG l p (i + 1) := fun h => by
          rw [eD, if_neg]
          rintro ⟨h1, h2⟩
          rcases h with h | h
          · rw [h] at h1; cases h1
          · exact h (eB.1 h2)
        clear eD eB
        generalize decG l p i = D at *
        generalize (l.getD D.toNat noRul).pa.length = x1 at *
        generalize (l.getD i noRul).pa.length = x2 at *
        generalize (l.getD D.toNat noRul).al = b1 at *
        generalize (l.getD i noRul).al = b2 at *
        refine ⟨hlt, by omega, fun hm => ⟨by omega, i + 1, by omega, by omega, eN (.inl hm), by omega⟩, fun hm => ?_⟩
        refine ⟨by omega, by omega, by grind, by grind, by grind, fun h => ⟨by omega, i + 1, by omega, by omega, eY hm h, by omega⟩, fun h => ⟨by omega, i + 1, by omega, by omega, eN (.inr (by grind)), by omega⟩⟩
      · obtain rfl : i = l.length := by omega
        rfl
  · cases h
attribute [push_cast] ckDec
def ckRulesF : Ck
  | [x, .str a] => some (isC cRob x ∧ robOk (cRob.dec x) ∧ a.length ≤ 140737488355328, .tup [.sl (if agE (cRob.dec x) a = 0 then (rulesL (cRob.dec x) a).1 else []).length (lsF cRul (if agE (cRob.dec x) a = 0 then (rulesL (cRob.dec x) a).1 else [])), .int .i64 (if agE (cRob.dec x) a = 0 then (rulesL (cRob.dec x) a).2 else 0), .int .i64 (agE (cRob.dec x) a)])
  | _ => none
theorem agE_rob {r : Rob} {a : List UInt8} (h : agE r a = 0) : checkRobL r = 0 ∧ agentL a = true := by
  unfold agE at h
  by_cases h1 : checkRobL r = 0
  · rw [if_pos h1] at h
    refine ⟨h1, Classical.byContradiction fun h2 => ?_⟩
    rw [if_neg (fun y => h2 y.1)] at h; cases h
  · rw [if_neg h1] at h; exact absurd h h1
attribute [push_cast] ckRulesF
def ckPer : Ck
  | [x, .str a, .str p] => some (isC cRob x ∧ robOk (cRob.dec x) ∧ checkRobL (cRob.dec x) = 0 ∧ p.length ≤ 1048000, .bool (perL (cRob.dec x) a p))
  | _ => none
theorem conPer : Con pg 27 ckPer := by
  have hct := (ctA_ok conRules (ctA_ok conDec (ctN_ok _)))
  intro args q r h hq
  unfold ckPer at h
  split at h
  · cases h
    rename_i x a p
    refine pcall_args (args' := [cRob.enc (cRob.dec x), .str a, .str p]) ⟨hq.1, VLe.refl _, VLe.refl _, trivial⟩ ?_
    obtain ⟨-, ok, hc, hp⟩ := hq
    generalize cRob.dec x = r at ok hc ⊢
    obtain ⟨b1, b2, b3, b4⟩ := rules_b a hc
    refine w27 (fun _ => false) [] rfl hct rfl rfl ?_
    push_cast (config := { maxSteps := 10000000 })
    have db := decG_b (rulesL r a).1 p (rulesL r a).1.length
    have db2 : decL (rulesL r a).1 p = decG (rulesL r a).1 p (rulesL r a).1.length := rfl
    refine ⟨⟨ok, hc⟩, ⟨b1, b2, hp⟩, fun h => ⟨h, by omega, by omega⟩, ?_⟩
    unfold perL
    rw [Bool.or_assoc]; rfl
  · cases h
attribute [push_cast] ckPer
def ckPermits : Ck
  | [x, .str a, .agg [.str sc, .str ho, .str po, .str pa, .str qu, .bool hq, .str fr, .bool hf]] => some (isC cRob x ∧ robOk (cRob.dec x) ∧ a.length ≤ 140737488355328 ∧ adrOk ⟨sc, ho, po, pa, qu, hq, fr, hf⟩,
      .tup [.bool (decide (adE (cRob.dec x) a ⟨sc, ho, po, pa, qu, hq, fr, hf⟩ = 0) && perL (cRob.dec x) a (pathL ⟨sc, ho, po, pa, qu, hq, fr, hf⟩)), .int .i64 (adE (cRob.dec x) a ⟨sc, ho, po, pa, qu, hq, fr, hf⟩)])
  | _ => none
theorem conPermits : Con pg 9 ckPermits := by
  have hct := (ctA_ok conAgE (ctA_ok conCheckAdr (ctA_ok conPathOf (ctA_ok conPer (ctN_ok _)))))
  intro args q r h hq
  unfold ckPermits at h
  split at h
  · cases h
    rename_i x a sc ho po pa qu hq1 fr hf
    refine pcall_args (args' := [cRob.enc (cRob.dec x), .str a, .agg [.str sc, .str ho, .str po, .str pa, .str qu, .bool hq1, .str fr, .bool hf]]) ⟨hq.1, VLe.refl _, VLe.refl _, trivial⟩ ?_
    obtain ⟨-, ok, ha, hx⟩ := hq
    generalize cRob.dec x = r at ok ⊢
    refine w9 (fun _ => false) [] rfl hct rfl rfl ?_
    push_cast (config := { maxSteps := 10000000 })
    generalize (⟨sc, ho, po, pa, qu, hq1, fr, hf⟩ : Adr) = y at *
    refine ⟨⟨ok, ha⟩, fun h => ?_, fun h => ⟨hx, fun h2 => ?_, fun h2 => ?_⟩⟩
    · unfold adE; rw [if_neg h, decide_eq_false h]; exact ⟨rfl, rfl⟩
    · unfold adE; rw [if_pos h, decide_eq_false h2]; exact ⟨rfl, rfl⟩
    · have := pathL_len h2
      have e : adE r a y = 0 := by unfold adE; rw [if_pos h, h2]
      rw [e]
      exact ⟨h2, ⟨ok, (agE_rob h).1, by omega⟩, rfl, rfl⟩
  · cases h
attribute [push_cast] ckPermits
def ckDecF : Ck
  | [x, .str a, .agg [.str sc, .str ho, .str po, .str pa, .str qu, .bool hq, .str fr, .bool hf]] => some (isC cRob x ∧ robOk (cRob.dec x) ∧ a.length ≤ 140737488355328 ∧ adrOk ⟨sc, ho, po, pa, qu, hq, fr, hf⟩,
      .tup [.int .i64 (if adE (cRob.dec x) a ⟨sc, ho, po, pa, qu, hq, fr, hf⟩ = 0 then max (decL (rulesL (cRob.dec x) a).1 (pathL ⟨sc, ho, po, pa, qu, hq, fr, hf⟩)) 0 else 0), .bool (decide (adE (cRob.dec x) a ⟨sc, ho, po, pa, qu, hq, fr, hf⟩ = 0) && decide (0 ≤ decL (rulesL (cRob.dec x) a).1 (pathL ⟨sc, ho, po, pa, qu, hq, fr, hf⟩))), .int .i64 (adE (cRob.dec x) a ⟨sc, ho, po, pa, qu, hq, fr, hf⟩)])
  | _ => none
attribute [push_cast] ckDecF
/- a list of a site as an argument -/
def entOk (e : Ent) : Prop := e.loc.length ≤ 140737488355328 ∧ -9223372036854775808 ≤ e.day ∧ e.day ≤ 9223372036854775807 ∧ -9223372036854775808 ≤ e.wt ∧ e.wt ≤ 9223372036854775807
abbrev sEnt : Sh := .tup [.str, .int .i64, .int .i64]
abbrev sSMp : Sh := .tup [.bool, .list sEnt]
theorem shEnt {m : Nat} {v : V} (h : Sh.has sEnt m v) : ∃ a, v = cEnt.enc a ∧ entOk a := by
  obtain ⟨l, ms, rfl, -, hl⟩ := h
  obtain ⟨m1, v1, ms, l, rfl, h1, hl⟩ := hasL_cons hl
  obtain ⟨m2, v2, ms, l, rfl, h2, hl⟩ := hasL_cons hl
  obtain ⟨m3, v3, ms, l, rfl, h3, hl⟩ := hasL_cons hl
  obtain rfl := hasL_nil hl
  obtain ⟨s, rfl, b1⟩ := shStr h1
  obtain ⟨d, rfl, c2⟩ := shInt h2
  obtain ⟨w, rfl, c3⟩ := shInt h3
  simp only [Lit.wf, Bool.and_eq_true, decide_eq_true_eq] at c2 c3
  exact ⟨⟨s, d, w⟩, rfl, b1, c2.1, c2.2, c3.1, c3.2⟩
theorem shSMp {m : Nat} {v : V} (h : Sh.has sSMp m v) : ∃ b n f, v = .agg [.bool b, .sl n f] ∧ isLs cEnt n f ∧ n ≤ 140737488355328 ∧ ∀ e ∈ lsOf cEnt n f, entOk e := by
  obtain ⟨l, ms, rfl, -, hl⟩ := h
  obtain ⟨m1, v1, ms, l, rfl, h1, hl⟩ := hasL_cons hl
  obtain ⟨m2, v2, ms, l, rfl, h2, hl⟩ := hasL_cons hl
  obtain rfl := hasL_nil hl
  obtain ⟨b, rfl, _⟩ := h1
  obtain ⟨n, f, rfl, i1, b1, k1⟩ := shList (c := cEnt) (fun m v h => shEnt h) h2
  exact ⟨b, n, f, rfl, i1, b1, k1⟩

end Go.Abs
