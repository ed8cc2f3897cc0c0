/- what functions of this program compute: contracts, each a function's own -/
import Derived.Test.YtkpecjbbmadlcaaGreatDoorAbsK3
import Derived.Test.YtkpecjbbmadlcaaGreatDoorAbsFacts
import Derived.Test.YtkpecjbbmadlcaaGreatDoorAbsF0
import Derived.Test.YtkpecjbbmadlcaaGreatDoorAbsShelf
import Derived.Lib.SplitLaws
import Derived.Lib.SlTrimSet
import Derived.Lib.Atoi
import Derived.Lib.Itoa
import Derived.Lib.ItoaNum
import Derived.Lib.ItoaLen
import Derived.Lib.Replace
import Derived.Lib.ReplaceLaws
import Derived.Lib.AtoiErrMem
import Derived.Lib.Overlaps
import Derived.Deep.AppendSrc
import Derived.Laws.NewBlocks
import Derived.WalkKit
import Derived.Lib.Walk
import Derived.Lib.AppendStr
import Derived.Lib.AppendZeros
import Derived.Lib.UnsafeStr
import Derived.Lib.Builder
import Derived.Laws.Externs
import Derived.Lib.Repeat
import Derived.Lib.Join
namespace Go.Abs
open Go Go.Proofs
set_option maxHeartbeats 4000000
set_option maxRecDepth 100000
set_option linter.unusedVariables false
set_option linter.unusedSimpArgs false
/-- cells laid into a row -/
def layB (arr : Array Value) (o : Nat) (l : List Value) : Array Value := (l.zipIdx 0).foldl (fun cs (p : Value × Nat) => cs.setIfInBounds (o + p.2) p.1) arr
theorem layB_ok (l : List Value) (o : Nat) (arr : Array Value) (h : o + l.length ≤ arr.size) : (layB arr o l).size = arr.size ∧ ∀ k, (layB arr o l).getD k undef = if o ≤ k ∧ k < o + l.length then l.getD (k - o) undef else arr.getD k undef := by
  have := lay_cells l o 0 arr (by omega)
  exact this
def cellsB (s : List UInt8) : List Value := s.map fun b => Value.int IntKind.u8 (b.toNat : Int)
theorem cellsB_len (s : List UInt8) : (cellsB s).length = s.length := by simp [cellsB]
theorem cellsB_at {s : List UInt8} {j : Nat} {x : UInt8} (h : s[j]? = some x) : (cellsB s)[j]? = some (Value.int IntKind.u8 (x.toNat : Int)) := by
  unfold cellsB; rw [List.getElem?_map, h]; rfl
/-- how a row of bytes goes on -/
structure FrB (w w' : World) (v v' : Value) : Prop where
  os : w'.os = w.os
  tape : w'.tape = w.tape
  output : w'.output = w.output
  size : w.heap.size ≤ w'.heap.size
  same : ∀ c, c < w.heap.size → blkOf v ≠ some c → w'.heap[c]? = w.heap[c]?
  blk : ∀ c, blkOf v' = some c → blkOf v = some c ∨ w.heap.size ≤ c
  evo : Evo v v'
theorem infoByte : ∃ i, Tryz.prog.info? 5 = some i ∧ i.zero = some (.int .u8 0) ∧ i.size = 1 ∧ i.bytes = 1 := by
  have h1 : (Tryz.prog.info? 5).map (fun i => (i.zero, i.size, i.bytes)) = some (some (.int .u8 0), 1, 1) := by kernel_rfl
  cases hq : (Tryz.prog.info? 5) with
  | none => rw [hq] at h1; cases h1
  | some i =>
    rw [hq] at h1
    simp only [Option.map_some, Option.some.injEq, Prod.mk.injEq] at h1
    exact ⟨i, rfl, h1.1, h1.2.1, h1.2.2⟩
theorem appB {w : World} {v x : Value} {tx : TypeId} {q s : List UInt8} (hs : Go.Src Tryz.prog 1 tx x s.length (cellsB s) w) (h0 : s ≠ []) (hv : TbOk w 5 q v) (hlen : q.length + s.length ≤ 70368744177664) :
    ∃ v' w', (∀ ty, (Builtin.append_ #[38, tx] ty #[v, x]).run Tryz.prog w = .ok v' w') ∧ TbOk w' 5 (q ++ s) v' ∧ FrB w w' v v' ∧ (∃ a n c, v' = .slice a n c) := by
  have hs0 : 0 < s.length := List.length_pos_iff.2 h0
  obtain ⟨i, hi, hz, h1, h2⟩ := infoByte
  have t67 := Tryz.underlying38
  have grow : ∀ (base : Option Addr) (cap : Nat) (olds : List Value), olds = cellsB q → (Builtin.firstCells 1 q.length (.slice base q.length cap)).run Tryz.prog w.drew = .ok olds.toArray w.drew → cap < q.length + s.length → q.length ≤ cap → (q.length = 0 ∨ True) →
      ∃ v' w', (∀ ty, (Builtin.append_ #[38, tx] ty #[.slice base q.length cap, x]).run Tryz.prog w = .ok v' w') ∧ TbOk w' 5 (q ++ s) v' ∧ FrB w w' (.slice base q.length cap) v' ∧ (∃ a n c, v' = .slice a n c) := by
    intro base cap olds ho hold hc hqc _
    have hG := grownCap_ge w (q.length + s.length) cap 5
    refine ⟨_, _, fun ty => run_append_grow_src w 38 tx ty 5 i _ t67 hi hz base q.length cap olds (by rw [h1]; exact hold) x s.length (cellsB s) (by rw [h1]; exact hs) hc (by omega) (by rw [h2]; exact growslice_fits hc (by omega)), ?_, ⟨rfl, rfl, rfl, by simp, fun c hcl _ => RowKit.Below.heap_alloc w.drew _ _ hcl, fun c hcb => .inr ?_, .inr ⟨_, _, _, _, _, _, rfl, rfl, by omega⟩⟩, _, _, _, rfl⟩
    · refine .inr ⟨w.heap.size, _, _, by rw [List.length_append], by rw [List.length_append]; exact hG, by omega, World.alloc_heap_new w.drew _, ?_, fun j y hj => ?_⟩
      · rw [Array.size_append, size_zeroCells, List.size_toArray, List.length_append, ho, cellsB_len, cellsB_len]
        show q.length + s.length + _ * 1 = _
        omega
      · have hlt : j < (q ++ s).length := (List.getElem?_eq_some_iff.1 hj).1
        rw [List.length_append] at hlt
        rw [Array.getElem?_append, if_pos (by rw [List.size_toArray, List.length_append, ho, cellsB_len, cellsB_len]; exact hlt), List.getElem?_toArray, ho]
        have : cellsB q ++ cellsB s = cellsB (q ++ s) := by unfold cellsB; rw [List.map_append]
        rw [this]
        exact cellsB_at hj
    · simp only [blkOf] at hcb; split at hcb <;> simp_all
  rcases hv with ⟨rfl, rfl⟩ | ⟨g, cap, arr, rfl, hqc, hc0, hg, hsz, hcl⟩
  · exact grow none 0 [] rfl (run_firstCells_none w.drew 1 0 0 0) (by simpa using hs0) (Nat.le_refl _) (.inr trivial)
  · have hcells : ∀ j u, (cellsB q)[j]? = some u → w.cell? ((⟨g, 0, none⟩ : Addr).add j) = some u := fun j u hj => by
      unfold cellsB at hj
      rw [List.getElem?_map] at hj
      obtain ⟨y, hy, rfl⟩ := Option.map_eq_some_iff.1 hj
      rw [addr_add, Nat.zero_add, cell_of_heap hg]
      exact hcl j y hy
    by_cases hroom : q.length + s.length ≤ cap
    · have hA := layB_ok (cellsB s) q.length arr (by rw [cellsB_len]; omega)
      have hst := store_run (P := Tryz.prog) g q.length 5 0 0 (cellsB s) 0 arr w hg (.inl rfl) (by rw [cellsB_len]; omega) hs.one
      refine ⟨.slice (some ⟨g, 0, none⟩) (q.length + s.length) cap, w.setRow g (layB arr q.length (cellsB s)), fun ty => ?_, .inr ⟨g, cap, _, by rw [List.length_append], by rw [List.length_append]; exact hroom, hc0, setRow_heap _ _ _ _ _ _ hg, hA.1.trans hsz, fun j y hj => ?_⟩, ⟨rfl, rfl, rfl, by simp, fun c hcl hcb => setRow_other _ _ _ _ (fun e => hcb (by simp [blkOf, e]; omega)), fun c hcb => .inl (by simp only [blkOf] at hcb ⊢; exact hcb), .inr ⟨_, _, _, _, _, _, rfl, rfl, by omega⟩⟩, _, _, _, rfl⟩
      · have hx := hs.cells
        rcases hs.kind with ⟨e', hk⟩ | hk <;> simp [Builtin.append_, run_underlying t67, run_underlying hk, sizeOf, typeInfo, hi, h1, hs.len, hroom, hx, addr_add, hst, layB]
      · have hlt : j < (q ++ s).length := (List.getElem?_eq_some_iff.1 hj).1
        rw [List.length_append] at hlt
        have hjs : j < (layB arr q.length (cellsB s)).size := by rw [hA.1]; omega
        have := hA.2 j
        rw [Array.getD_eq_getD_getElem?, Array.getElem?_eq_getElem hjs, Option.getD_some] at this
        rw [Array.getElem?_eq_getElem hjs, this]
        by_cases hjq : j < q.length
        · rw [if_neg (by omega)]
          rw [List.getElem?_append, if_pos hjq] at hj
          rw [Array.getD_eq_getD_getElem?, hcl j y hj]; rfl
        · rw [if_pos ⟨by omega, by rw [cellsB_len]; omega⟩]
          rw [List.getElem?_append, if_neg hjq] at hj
          rw [List.getD_eq_getElem?_getD, cellsB_at hj]; rfl
    · exact grow (some ⟨g, 0, none⟩) cap (cellsB q) rfl (run_firstCells_some w.drew 1 q.length ⟨g, 0, none⟩ q.length cap (cellsB q) (by rw [cellsB_len, Nat.mul_one]) hcells) (by omega) hqc (.inr trivial)
def selfB (b : Nat) : Value := .pointer (some ⟨b, 0, none⟩)
theorem sizeBld : (Tryz.prog.info? 40).map (·.size) = some 2 := by kernel_rfl
theorem liesBld : liesAt Tryz.prog Tryz.prog.depth 40 (2 / Tryz.prog.cellsOf 40) 0 40 1 = true := by kernel_rfl
open Go.RowKit Go.Shelf in
set_option maxRecDepth 100000 in
theorem copyC (b : Nat) (p v : Value) (lo hi : Nat) (w : World) (hb : w.heap[b]? = some (.cells #[p, v] 40 (lo, hi))) (hfr : lo = hi ∨ 2 ≤ lo) (hp : p = .pointer none ∨ p = selfB b) :
    Calls Tryz.prog 34 #[selfB b] w fun e w1 => e = .returned (.tuple #[]) ∧ w1.heap[b]? = some (.cells #[selfB b, v] 40 (lo, hi)) ∧ (∀ c, c ≠ b → w1.heap[c]? = w.heap[c]?) ∧ w1.os = w.os ∧ w1.tape = w.tape ∧ w1.output = w.output ∧ w1.heap.size = w.heap.size := by
  have c0 : w.cell? ⟨b, 0, none⟩ = some p := by rw [cell_of_heap hb]; rfl
  obtain ⟨bi, hbi, hbs⟩ := Option.map_eq_some_iff.1 sizeBld
  have t66 := Tryz.underlying37
  have tU := Tryz.underlying91
  have t69 := Tryz.underlying40
  have mixed : Tryz.prog.follows .mixedOrders = true := fol
  have hsh : w.shape? b = some (40, 2) := by unfold World.shape?; rw [hb]; rfl
  have hfz : w.frozen? ⟨b, 0, none⟩ = false := by simp only [World.frozen?, hb, Bool.and_eq_false_iff, decide_eq_false_iff_not]; omega
  unfold selfB at *
  rcases hp with rfl | rfl
  · go_enter Tryz.func34, Tryz.ntmps34
    go_wp2
    rw [Lib.run_to_unsafe w ⟨b, 0, none⟩ t66 tU hbi (by rw [hbs]; decide) hsh (Nat.zero_lt_succ 1)]
    simp only [Result.andThen]
    rw [Oper.upon_value]
    go_wp2
    rw [run_callFunc_extern Tryz.func61 (by kernel_rfl) (by kernel_rfl) (by kernel_rfl) (e := Extern.AbiNoEscape.same) (by kernel_rfl)]
    rw [Lib.run_noEscape]
    simp only [Result.andThen]
    rw [Oper.upon_value]
    go_wp2
    rw [Lib.run_from_unsafe w ⟨b, 0, none⟩ tU t66 hbi hsh liesBld]
    simp only [Result.andThen]
    rw [Oper.upon_value]
    go_wp2
    go_end0
    refine ⟨rfl, ?_, fun c hc => ?_, rfl, rfl, rfl, ?_⟩
    · unfold World.setCell; simp [Array.getElem?_modify, hb]
    · unfold World.setCell; simp [Array.getElem?_modify, Ne.symm hc]
    · unfold World.setCell; simp
  · go_enter Tryz.func34, Tryz.ntmps34
    go_wp2
    rw [Lib.run_neq_ptr_same w _ t66 hbi]
    go_wp2
    go_end0
    exact ⟨rfl, hb, fun _ _ => rfl, rfl, rfl, rfl, rfl⟩
/-- a builder goes on: to the bytes q -/
def BldS (w w' : World) (b : Nat) (lo hi : Nat) (v : Value) (q : List UInt8) : Prop := ∃ v', w'.heap[b]? = some (.cells #[selfB b, v'] 40 (lo, hi)) ∧ TbOk w' 5 q v' ∧ blkOf v' ≠ some b ∧ w'.os = w.os ∧ w'.tape = w.tape ∧ w'.output = w.output ∧ w.heap.size ≤ w'.heap.size ∧
  (∀ c, c < w.heap.size → c ≠ b → blkOf v ≠ some c → w'.heap[c]? = w.heap[c]?) ∧ (∀ c, blkOf v' = some c → blkOf v = some c ∨ w.heap.size ≤ c) ∧ Evo v v'
theorem TbOk.same {w w' : World} {t : TypeId} {q : List UInt8} {v : Value} (h : TbOk w t q v) (hw : ∀ c, blkOf v = some c → w'.heap[c]? = w.heap[c]?) : TbOk w' t q v := by
  rcases h with h | ⟨g, cap, arr, h1, h2, h3, h4, h5⟩
  · exact .inl h
  · exact .inr ⟨g, cap, arr, h1, h2, h3, by rw [hw g (by simp [h1, blkOf]; omega)]; exact h4, h5⟩
theorem TbOk.slice {w : World} {t : TypeId} {q : List UInt8} {v : Value} (h : TbOk w t q v) : ∃ a n c, v = .slice a n c := by
  rcases h with ⟨_, h⟩ | ⟨g, cap, arr, h, _⟩ <;> exact ⟨_, _, _, h⟩
open Go.RowKit Go.Shelf in
set_option maxRecDepth 100000 in
theorem writeS_w (b : Nat) (p v : Value) (q s : List UInt8) (lo hi : Nat) (w : World) (hb : w.heap[b]? = some (.cells #[p, v] 40 (lo, hi))) (hfr : lo = hi ∨ 2 ≤ lo) (hp : p = .pointer none ∨ p = selfB b) (hv : TbOk w 5 q v) (hne : blkOf v ≠ some b) (h0 : s ≠ []) (hlen : q.length + s.length ≤ 70368744177664) :
    Calls Tryz.prog 15 #[selfB b, .string ⟨s.toArray⟩] w fun e w' => e = .returned (.tuple #[.int .i64 s.length, .nilIface]) ∧ BldS w w' b lo hi v (q ++ s) := by
  have hlt : b < w.heap.size := (Array.getElem?_eq_some_iff.1 hb).1
  have e72 : ∀ args w, (callFunc 34 args).run Tryz.prog w = .ok (.enter 34 args) w := enters_of Tryz.func34 (by kernel_rfl) rfl
  have t67 := Tryz.underlying38
  have t9 := Tryz.underlying9
  have t69 := Tryz.underlying40
  have mixed : Tryz.prog.follows .mixedOrders = true := fol
  unfold selfB
  go_enter Tryz.func15, Tryz.ntmps15
  go_wp2_with (go_at_fn 34; refine (copyC b p v lo hi _ hb hfr hp).mono ?_)
  rintro e w1 ⟨rfl, h1, h2, h3, h4, h5, h6⟩
  have hv1 : TbOk w1 5 q v := hv.same fun c hc => h2 c fun e => hne (e ▸ hc)
  obtain ⟨v', w2, hr, k1, k2, a', n', c', rfl⟩ := appB (x := .string ⟨s.toArray⟩) (Go.Src.ofString w1 t9 ⟨s.toArray⟩) h0 hv1 hlen
  have hb2 : w2.heap[b]? = some (.cells #[selfB b, v] 40 (lo, hi)) := by rw [k2.same b (by omega) hne]; exact h1
  have c1 : w1.cell? ⟨b, 1, none⟩ = some v := by rw [cell_of_heap h1]; rfl
  have d1 : w2.cell? ⟨b, 1, none⟩ = some v := by rw [cell_of_heap hb2]; rfl
  have f1 : w2.frozen? ⟨b, 1, none⟩ = false := by simp only [World.frozen?, hb2, Bool.and_eq_false_iff, decide_eq_false_iff_not]; omega
  go_wp2_with (at_builtin; refine Lib.wpList_append_run _ rfl _ _ _ _ rfl _ _ rfl rfl _ _ (hr _) ?_)
  go_ret2
  have hlt2 : w1.heap.size ≤ w2.heap.size := k2.size
  have hbk : ∀ c, blkOf (.slice a' n' c') = some c → c ≠ b := fun c hc e => by
    rcases k2.blk c hc with h | h
    · exact hne (e ▸ h)
    · omega
  have so : ∀ c, c ≠ b → (w2.setCell ⟨b, 1, none⟩ (.slice a' n' c')).heap[c]? = w2.heap[c]? := fun c hc => by
    unfold World.setCell; simp [Array.getElem?_modify, Ne.symm hc]
  refine ⟨rfl, .slice a' n' c', ?_, k1.same fun c hc => so c (hbk c hc), fun h => hbk b h rfl, k2.os.trans h3, k2.tape.trans h4, k2.output.trans h5, ?_, fun c hc hcb hcv => ?_, fun c hc => ?_, k2.evo⟩
  · unfold World.setCell; simp [Array.getElem?_modify, hb2]
  · unfold World.setCell; simp; omega
  · rw [so c hcb, k2.same c (by omega) hcv]; exact h2 c hcb
  · rcases k2.blk c hc with h | h
    · exact .inl h
    · exact .inr (by omega)
/-- what is left of a builder whose string was taken -/
structure FrS (w w' : World) (b : Nat) (v : Value) : Prop where
  os : w'.os = w.os
  tape : w'.tape = w.tape
  output : w'.output = w.output
  size : w.heap.size ≤ w'.heap.size
  same : ∀ c, c < w.heap.size → c ≠ b → blkOf v ≠ some c → w'.heap[c]? = w.heap[c]?
open Go.RowKit Go.Shelf in
set_option maxRecDepth 100000 in
theorem string_w (b : Nat) (p v : Value) (q : List UInt8) (lo hi : Nat) (w : World) (hb : w.heap[b]? = some (.cells #[p, v] 40 (lo, hi))) (hv : TbOk w 5 q v) (hlen : q.length ≤ 70368744177664) :
    Calls Tryz.prog 19 #[selfB b] w fun e w' => e = .returned (.string ⟨q.toArray⟩) ∧ FrS w w' b v := by
  have t67 := Tryz.underlying38
  have t9 := Tryz.underlying9
  have t3 := Tryz.underlying3
  have t108 := Tryz.underlying74
  have t69 := Tryz.underlying40
  have cB : Tryz.prog.cellsOf 5 = 1 := by kernel_rfl
  have mixed : Tryz.prog.follows .mixedOrders = true := fol
  have c1 : w.drew.cell? ⟨b, 1, none⟩ = some v := by
    have : w.drew.heap[b]? = some (.cells #[p, v] 40 (lo, hi)) := hb
    rw [cell_of_heap this]; rfl
  have hNone : ∀ (W : World) (x : Option Addr), (Builtin.unsafeString_ #[74, 3] 9 #[.pointer x, .int .i64 0]).run Tryz.prog W = .ok (.string .empty) W := fun W x => Lib.run_unsafeString_none W _ _ _ x
  unfold selfB
  rcases hv with ⟨rfl, rfl⟩ | ⟨g, cap, arr, rfl, h2, h3, h4, h5, h6⟩
  · have hSD : (Builtin.unsafeSliceData_ #[38] 74 #[.slice none 0 0]).run Tryz.prog w.drew = .ok (.pointer none) w.drew := rfl
    go_enter Tryz.func19, Tryz.ntmps19
    go_wp2
    go_region_o
    all_goals (go_wp2; go_ret; exact ⟨rfl, ⟨rfl, rfl, rfl, Nat.le_refl _, fun _ _ _ _ => rfl⟩⟩)
  · have hSD : (Builtin.unsafeSliceData_ #[38] 74 #[.slice (some ⟨g, 0, none⟩) q.length cap]).run Tryz.prog w.drew = .ok (.pointer (some ⟨g, 0, none⟩)) w.drew := Lib.run_unsafeSliceData_row _ _ _ _ _ _ (by omega)
    by_cases h0 : q = []
    · subst h0
      simp only [List.length_nil] at hSD c1
      go_enter Tryz.func19, Tryz.ntmps19
      go_wp2
      go_region_o
      all_goals (go_wp2; go_ret; exact ⟨rfl, ⟨rfl, rfl, rfl, Nat.le_refl _, fun _ _ _ _ => rfl⟩⟩)
    · have hUS : (Builtin.unsafeString_ #[74, 3] 9 #[.pointer (some ⟨g, 0, none⟩), .int .i64 q.length]).run Tryz.prog w.drew = .ok (.string ⟨q.toArray⟩) (w.drew.freeze ⟨g, 0, none⟩ q.length) :=
        Lib.run_unsafeString_row w.drew 74 3 9 5 t108 cB g arr.size (by have h4' : w.drew.heap[g]? = some (.cells arr 5 (0, 0)) := h4; unfold World.shape?; rw [h4']) q h0 (by omega) (by omega) (fun j x hj => by
          have h4' : w.drew.heap[g]? = some (.cells arr 5 (0, 0)) := h4
          rw [addr_add, Nat.zero_add, cell_of_heap h4']; exact h6 j x hj)
      have hF : FrS w (w.drew.freeze ⟨g, 0, none⟩ q.length) b (.slice (some ⟨g, 0, none⟩) q.length cap) := by
        have hq : ¬ q.length = 0 := fun e => h0 (List.length_eq_zero_iff.1 e)
        have e : w.drew.freeze ⟨g, 0, none⟩ q.length = { w.drew with heap := (w.drew.freeze ⟨g, 0, none⟩ q.length).heap } := by unfold World.freeze; rw [if_neg hq]
        refine ⟨by rw [e]; rfl, by rw [e]; rfl, by rw [e]; rfl, ?_, fun c hc hcb hcv => ?_⟩
        · unfold World.freeze
          rw [if_neg hq]
          simp
        · have hcg : c ≠ g := fun x => hcv (by simp [blkOf, x]; omega)
          unfold World.freeze
          rw [if_neg hq]
          simp [Array.getElem?_modify, Ne.symm hcg]
          rfl
      go_enter Tryz.func19, Tryz.ntmps19
      go_wp2
      go_region_o
      all_goals (go_wp2; go_ret; exact ⟨rfl, hF⟩)
theorem TbOk.vec {γ : Gh} {imm : Nat → Prop} {w : World} {t : TypeId} {q : List UInt8} {J : Nat} (h : TbOk w t q (γ J)) : RepC γ imm w (.vec J q.length) (γ J) := by
  rcases h with ⟨rfl, h⟩ | ⟨g, cap, arr, h, _⟩
  · exact ⟨.vec J _ _ none 0 0 h (Nat.le_refl _) (fun _ => rfl) (by rw [h]; rfl), by rw [h]; rfl⟩
  · exact ⟨.vec J _ _ _ q.length cap h (Nat.le_refl _) (fun _ => rfl) (by rw [h]; rfl), by rw [h]; rfl⟩
theorem bld_in {S : Sv} (hs : Sim pg S) {I J n : Nat} {p : V} {q : List UInt8} (hIJ : I ≠ J) (hh : S.h = hOf [(I, .tc 40 [p, .vec J n]), (J, .tb 5 q)]) (hp : p = .con (.pointer none) ∨ p = .ptr I 0) (hn : n = q.length) :
    ∃ b pv lo hi, S.γ I = selfB b ∧ S.w.heap[b]? = some (.cells #[pv, S.γ J] 40 (lo, hi)) ∧ (lo = hi ∨ 2 ≤ lo) ∧ (pv = .pointer none ∨ pv = selfB b) ∧ TbOk S.w 5 q (S.γ J) ∧ blkOf (S.γ J) ≠ some b := by
  have eI : S.h I = some (.tc 40 [p, .vec J n]) := by rw [hh]; simp [hOf]
  have eJ : S.h J = some (.tb 5 q) := by
    rw [hh]
    show upd _ I _ J = _
    rw [upd_ne _ _ (Ne.symm hIJ)]; simp [hOf]
  obtain ⟨b, arr, lo, hi, h1, h2, h3, h4, h5⟩ := hs.blk I _ eI
  have hT : TbOk S.w 5 q (S.γ J) := hs.blk J _ eJ
  have h3 : arr.size = 2 := h3
  have c0 := (h5 0 (by simp)).1
  have c1 := (h5 1 (by simp)).1
  simp only [List.getD_cons_zero, List.getD_cons_succ] at c0 c1
  obtain ⟨a, m, c, g1, g2, g3⟩ := inv_vec (S := S) c1
  have hm : n = m := by
    rcases hT with ⟨hq, h⟩ | ⟨g, cap, ar, h, _⟩
    · rw [h] at g1; cases g1; rw [hn, hq]; rfl
    · rw [h] at g1; cases g1; exact hn
  have e1 := g3 hm
  have ea : arr = #[arr.getD 0 undef, S.γ J] := by
    rw [← e1]
    apply Array.ext
    · simp [h3]
    · intro k hk1 hk2
      match k, hk1 with
      | 0, _ => simp [Array.getD, h3]
      | 1, _ => simp [Array.getD, h3]
      | k + 2, hk => omega
  refine ⟨b, arr.getD 0 undef, lo, hi, h1, by rw [← ea]; exact h2, by omega, ?_, hT, fun h => hIJ (hs.inj I J b (by rw [eI]; rfl) (by rw [eJ]; rfl) (by rw [h1]; rfl) h)⟩
  rcases hp with rfl | rfl
  · exact .inl (inv_con (S := S) c0)
  · obtain ⟨b', e, e'⟩ := inv_ptr (S := S) c0
    rw [h1] at e; cases e
    exact .inr e'
theorem bld_out {S : Sv} (hs : Sim pg S) {I J n : Nat} {p : V} {q q' : List UInt8} (hIJ : I ≠ J) (hh : S.h = hOf [(I, .tc 40 [p, .vec J n]), (J, .tb 5 q)]) {b lo hi : Nat} (hI : S.γ I = selfB b) (hfr : lo = hi ∨ 2 ≤ lo) (hne : blkOf (S.γ J) ≠ some b) {w' : World} (h : BldS S.w w' b lo hi (S.γ J) q') :
    ∃ γ', Sim pg ⟨γ', S.imm, hOf [(I, .tc 40 [.ptr I 0, .vec J q'.length]), (J, .tb 5 q')], w'⟩ ∧ Ext (fun _ => False) S ⟨γ', S.imm, hOf [(I, .tc 40 [.ptr I 0, .vec J q'.length]), (J, .tb 5 q')], w'⟩ ∧ ∀ id, hOf [(I, .tc 40 [p, .vec J n]), (J, .tb 5 q)] id = none → γ' id = S.γ id := by
  obtain ⟨v', k1, k2, k3, k4, k5, k6, k7, k8, k9, k10⟩ := h
  have eI : S.h I = some (.tc 40 [p, .vec J n]) := by rw [hh]; simp [hOf]
  have eJ : S.h J = some (.tb 5 q) := by
    rw [hh]
    show upd _ I _ J = _
    rw [upd_ne _ _ (Ne.symm hIJ)]; simp [hOf]
  have oI : S.own b := ⟨I, by rw [eI]; rfl, by rw [hI]; rfl⟩
  have oJ : ∀ c, blkOf (S.γ J) = some c → S.own c := fun c hc => ⟨J, by rw [eJ]; rfl, hc⟩
  have gI : upd S.γ J v' I = selfB b := by rw [upd_ne _ _ hIJ]; exact hI
  have gJ : upd S.γ J v' J = v' := upd_same _ _ _
  have only : ∀ id B, hOf [(I, .tc 40 [.ptr I 0, .vec J q'.length]), (J, .tb 5 q')] id = some B → (id = I ∧ B = .tc 40 [.ptr I 0, .vec J q'.length]) ∨ (id = J ∧ B = .tb 5 q') := fun id B hB => by
    simp only [hOf] at hB
    by_cases e1 : id = I
    · subst e1; rw [upd_same] at hB; cases hB; exact .inl ⟨rfl, rfl⟩
    · rw [upd_ne _ _ e1] at hB
      by_cases e2 : id = J
      · subst e2; rw [upd_same] at hB; cases hB; exact .inr ⟨rfl, rfl⟩
      · rw [upd_ne _ _ e2] at hB; cases hB
  have onlyS : ∀ id, (hOf [(I, .tc 40 [.ptr I 0, .vec J q'.length]), (J, .tb 5 q')] id).isSome = true → id = I ∨ id = J := fun id hid => by
    obtain ⟨B, hB⟩ := Option.isSome_iff_exists.1 hid
    exact (only id B hB).elim (fun x => .inl x.1) fun x => .inr x.1
  have himm : ∀ c, S.imm c → w'.heap[c]? = S.w.heap[c]? := fun c hc => k8 c (hs.immLt c hc) (fun e => hs.disj b oI (e ▸ hc)) fun e => hs.disj c (oJ c e) hc
  have T' : TbOk w' 5 q' (upd S.γ J v' J) := by rw [gJ]; exact k2
  have own' : ∀ c, Sv.own ⟨upd S.γ J v', S.imm, hOf [(I, .tc 40 [.ptr I 0, .vec J q'.length]), (J, .tb 5 q')], w'⟩ c → S.own c ∨ S.w.heap.size ≤ c := by
    rintro c ⟨id, hid, hc⟩
    rcases onlyS id hid with rfl | rfl
    · have hc : blkOf (upd S.γ J v' id) = some c := hc
      rw [gI] at hc
      cases hc
      exact .inl oI
    · have hc : blkOf (upd S.γ id v' id) = some c := hc
      rw [gJ] at hc
      rcases k9 c hc with h | h
      · exact .inl (oJ c h)
      · exact .inr h
  refine ⟨upd S.γ J v', ⟨fun id B hB => ?_, fun x y c hx hy hcx hcy => ?_, fun c hc => Nat.lt_of_lt_of_le (hs.immLt c hc) k7, fun c hc hi => ?_, hs.tab.of (fun _ h => h) himm⟩, ⟨k4, k5, k6, k7, fun c hc ho => k8 c hc (fun e => ho (e ▸ oI)) fun e => ho (oJ c e), fun _ h => h, fun _ h => .inl h, own', fun id _ => ?_⟩, fun id hid => ?_⟩
  · rcases only id B hB with ⟨rfl, rfl⟩ | ⟨rfl, rfl⟩
    · refine ⟨b, #[selfB b, v'], lo, hi, gI, k1, rfl, hfr, fun k hk => ?_⟩
      match k, hk with
      | 0, _ => exact ⟨.ptr id 0 b gI, rfl⟩
      | 1, _ =>
        have := TbOk.vec (γ := upd S.γ J v') (imm := S.imm) T'
        rw [gJ] at this
        exact this
    · exact T'
  · have bI : ∀ c, blkOf (upd S.γ J v' I) = some c → c = b := fun c hc => by rw [gI] at hc; cases hc; rfl
    have bJ : ∀ c, blkOf (upd S.γ J v' J) = some c → c ≠ b := fun c hc e => by rw [gJ] at hc; exact k3 (e ▸ hc)
    rcases onlyS x hx with rfl | rfl <;> rcases onlyS y hy with rfl | rfl
    · rfl
    · exact absurd (bI c hcx) (bJ c hcy)
    · exact absurd (bI c hcy) (bJ c hcx)
    · rfl
  · rcases own' c hc with h | h
    · exact hs.disj c h hi
    · have := hs.immLt c hi; omega
  · show Evo (S.γ id) (upd S.γ J v' id)
    by_cases e : id = J
    · subst e; rw [upd_same]; exact k10
    · rw [upd_ne _ _ e]; exact .refl _
  · by_cases e : id = J
    · subst e
      rw [← hh, eJ] at hid; cases hid
    · exact upd_ne _ _ e
def zB : V := .con (.pointer none)
def ckWSK : List V → List Blk → Option (Prop × V × List Blk)
  | [.ptr i 0, .str s], [.tc T [p, .vec j n], .tb e q] => some (T = 40 ∧ e = 5 ∧ j = i + 4000 ∧ n = q.length ∧ (p = zB ∨ p = .ptr i 0) ∧ s ≠ [] ∧ q.length + s.length ≤ 70368744177664, .tup [.int .i64 s.length, .con .nilIface], [.tc 40 [.ptr i 0, .vec (i + 4000) (q ++ s).length], .tb 5 (q ++ s)])
  | _, _ => none
def bldIds : List V → List Nat
  | .ptr i _ :: _ => [i, i + 4000]
  | _ => []
def ckWS : Cf := ⟨bldIds, ckWSK⟩
theorem pB {i : Nat} {p : V} (h : p = zB ∨ p = .ptr i 0) : V.shift p = .con (.pointer none) ∨ V.shift p = .ptr (i + 9000) 0 := h.imp (fun e => by rw [e]; rfl) fun e => by rw [e]; rfl
theorem conWS : FCon pg 15 ckWS := by
  intro args bs q r bs' h hq
  replace h : ckWSK args bs = some (q, r, bs') := h
  unfold ckWSK at h
  split at h
  · cases h
    rename_i i s T p j n e q
    refine ⟨rfl, Nat.le_refl _, ?_⟩
    obtain ⟨rfl, rfl, rfl, hn, hp, h0, hlen⟩ := hq
    intro S vals hs hh hl hr
    have hh : S.h = hOf [(i + 9000, .tc 40 [V.shift p, .vec (i + 4000 + 9000) n]), (i + 4000 + 9000, .tb 5 q)] := hh
    match vals, hl with
    | [v0, v1], _ =>
      have r0 : S.rep (.ptr (i + 9000) 0) v0 := hr 0 (by simp)
      have r1 : S.rep (.str s) v1 := hr 1 (by simp)
      obtain rfl := inv_str (S := S) r1
      have hIJ : i + 9000 ≠ i + 4000 + 9000 := by omega
      obtain ⟨b, pv, lo, hi, a1, a2, a3, a4, a5, a6⟩ := bld_in hs hIJ hh (pB hp) hn
      obtain ⟨b', e1, rfl⟩ := inv_ptr (S := S) r0
      rw [a1] at e1; cases e1
      refine .inl ⟨by kernel_rfl, (writeS_w b pv (S.γ (i + 4000 + 9000)) q s lo hi S.w a2 a3 a4 a5 a6 h0 hlen).mono ?_⟩
      rintro e w' ⟨rfl, hB⟩
      obtain ⟨γ', m1, m2, m3⟩ := bld_out hs hIJ hh a1 a3 a6 hB
      exact ⟨_, γ', S.imm, rfl, m1, m2, m3, .tup _ [_, _] rfl fun k hk => by
        match k, hk with
        | 0, _ => exact .pure (.int _ _)
        | 1, _ => exact .pure (.con _)⟩
  · cases h
@[push_cast] theorem ws_ids (i o : Nat) (l : List V) : ckWS.ids (.ptr i o :: l) = [i, i + 4000] := rfl
@[push_cast] theorem ws_k (i j n : Nat) (T e : TypeId) (p : V) (s q : List UInt8) : ckWS.k [.ptr i 0, .str s] [.tc T [p, .vec j n], .tb e q] = some (T = 40 ∧ e = 5 ∧ j = i + 4000 ∧ n = q.length ∧ (p = zB ∨ p = .ptr i 0) ∧ s ≠ [] ∧ q.length + s.length ≤ 70368744177664, .tup [.int .i64 s.length, .con .nilIface], [.tc 40 [.ptr i 0, .vec (i + 4000) (q ++ s).length], .tb 5 (q ++ s)]) := rfl
/- String: the builder is gone -/
def ckBSK : List V → List Blk → Option (Prop × V × List Blk)
  | [.ptr i 0], [.tc T [p, .vec j n], .tb e q] => some (T = 40 ∧ e = 5 ∧ j = i + 4000 ∧ n = q.length ∧ (p = zB ∨ p = .ptr i 0) ∧ q.length ≤ 70368744177664, .str q, [])
  | _, _ => none
def ckBS : Cf := ⟨bldIds, ckBSK⟩
theorem bld_gone {S : Sv} (hs : Sim pg S) {I J b : Nat} {w' : World} (hI : (S.h I).isSome = true) (hJ : (S.h J).isSome = true) (h1 : S.γ I = selfB b) (h : FrS S.w w' b (S.γ J)) : Sim pg ⟨S.γ, S.imm, hOf [], w'⟩ ∧ Ext (fun _ => False) S ⟨S.γ, S.imm, hOf [], w'⟩ := by
  have oI : S.own b := ⟨I, hI, by rw [h1]; rfl⟩
  have oJ : ∀ c, blkOf (S.γ J) = some c → S.own c := fun c hc => ⟨J, hJ, hc⟩
  have himm : ∀ c, S.imm c → w'.heap[c]? = S.w.heap[c]? := fun c hc => h.same c (hs.immLt c hc) (fun e => hs.disj b oI (e ▸ hc)) fun e => hs.disj c (oJ c e) hc
  have noOwn : ∀ c, ¬ Sv.own ⟨S.γ, S.imm, hOf [], w'⟩ c := fun c ⟨i, hi, _⟩ => by cases hi
  exact ⟨⟨fun id B hB => (by cases hB), fun x y c hx => (by cases hx), fun c hc => Nat.lt_of_lt_of_le (hs.immLt c hc) h.size, fun c hc => absurd hc (noOwn c), hs.tab.of (fun _ h => h) himm⟩, ⟨h.os, h.tape, h.output, h.size, fun c hc ho => h.same c hc (fun e => ho (e ▸ oI)) fun e => ho (oJ c e), fun _ h => h, fun _ h => .inl h, fun c hc => absurd hc (noOwn c), fun _ _ => .refl _⟩⟩
theorem conBS : FCon pg 19 ckBS := by
  intro args bs q r bs' h hq
  replace h : ckBSK args bs = some (q, r, bs') := h
  unfold ckBSK at h
  split at h
  · cases h
    rename_i i T p j n e q
    refine ⟨rfl, Nat.zero_le _, ?_⟩
    obtain ⟨rfl, rfl, rfl, hn, hp, hlen⟩ := hq
    intro S vals hs hh hl hr
    have hh : S.h = hOf [(i + 9000, .tc 40 [V.shift p, .vec (i + 4000 + 9000) n]), (i + 4000 + 9000, .tb 5 q)] := hh
    match vals, hl with
    | [v0], _ =>
      have r0 : S.rep (.ptr (i + 9000) 0) v0 := hr 0 (by simp)
      have hIJ : i + 9000 ≠ i + 4000 + 9000 := by omega
      obtain ⟨b, pv, lo, hi, a1, a2, a3, a4, a5, a6⟩ := bld_in hs hIJ hh (pB hp) hn
      obtain ⟨b', e1, rfl⟩ := inv_ptr (S := S) r0
      rw [a1] at e1; cases e1
      refine .inl ⟨by kernel_rfl, (string_w b pv (S.γ (i + 4000 + 9000)) q lo hi S.w a2 a5 hlen).mono ?_⟩
      rintro e w' ⟨rfl, hB⟩
      obtain ⟨m1, m2⟩ := bld_gone hs (I := i + 9000) (J := i + 4000 + 9000) (by rw [hh]; simp [hOf]) (by
        rw [hh]
        simp only [hOf]
        rw [upd_ne _ _ (Ne.symm hIJ)]; simp) a1 hB
      exact ⟨_, _, _, rfl, m1, m2, fun _ _ => rfl, .pure (.str _)⟩
  · cases h
@[push_cast] theorem bs_ids (i o : Nat) (l : List V) : ckBS.ids (.ptr i o :: l) = [i, i + 4000] := rfl
@[push_cast] theorem bs_k (i j n : Nat) (T e : TypeId) (p : V) (q : List UInt8) : ckBS.k [.ptr i 0] [.tc T [p, .vec j n], .tb e q] = some (T = 40 ∧ e = 5 ∧ j = i + 4000 ∧ n = q.length ∧ (p = zB ∨ p = .ptr i 0) ∧ q.length ≤ 70368744177664, .str q, []) := rfl

open Go.RowKit Go.Shelf in
set_option maxRecDepth 100000 in
open Go.RowKit Go.Shelf in
set_option maxRecDepth 100000 in
theorem len_w (b : Nat) (p v : Value) (q : List UInt8) (lo hi : Nat) (w : World) (hb : w.heap[b]? = some (.cells #[p, v] 40 (lo, hi))) (hv : TbOk w 5 q v) :
    Calls Tryz.prog 18 #[selfB b] w fun e w' => e = .returned (.int .i64 q.length) ∧ w' = w := by
  have t69 := Tryz.underlying40
  have t67 := Tryz.underlying38
  obtain ⟨a, c, e⟩ : ∃ a c, v = .slice a q.length c := by
    rcases hv with ⟨rfl, h⟩ | ⟨g, cap, arr, h, _⟩ <;> exact ⟨_, _, h⟩
  subst e
  have c1 : w.cell? ⟨b, 1, none⟩ = some (.slice a q.length c) := by rw [cell_of_heap hb]; rfl
  unfold selfB
  clear hv
  go_enter Tryz.func18, Tryz.ntmps18
  go_wp2
  go_ret
  exact ⟨rfl, rfl⟩
def ckWBK : List V → List Blk → Option (Prop × V × List Blk)
  | [.ptr i 0, .int .u8 x], [.tc T [p, .vec j n], .tb e q] => some (T = 40 ∧ e = 5 ∧ j = i + 4000 ∧ n = q.length ∧ (p = zB ∨ p = .ptr i 0) ∧ 0 ≤ x ∧ x < 256 ∧ q.length + 1 ≤ 70368744177664, .con .nilIface, [.tc 40 [.ptr i 0, .vec (i + 4000) (q ++ [UInt8.ofNat x.toNat]).length], .tb 5 (q ++ [UInt8.ofNat x.toNat])])
  | _, _ => none
def ckWB : Cf := ⟨bldIds, ckWBK⟩
@[push_cast] theorem wb_ids (i o : Nat) (l : List V) : ckWB.ids (.ptr i o :: l) = [i, i + 4000] := rfl
@[push_cast] theorem wb_k (i j n : Nat) (T e : TypeId) (p : V) (x : Int) (q : List UInt8) : ckWB.k [.ptr i 0, .int .u8 x] [.tc T [p, .vec j n], .tb e q] = some (T = 40 ∧ e = 5 ∧ j = i + 4000 ∧ n = q.length ∧ (p = zB ∨ p = .ptr i 0) ∧ 0 ≤ x ∧ x < 256 ∧ q.length + 1 ≤ 70368744177664, .con .nilIface, [.tc 40 [.ptr i 0, .vec (i + 4000) (q ++ [UInt8.ofNat x.toNat]).length], .tb 5 (q ++ [UInt8.ofNat x.toNat])]) := rfl
def ckBLK : List V → List Blk → Option (Prop × V × List Blk)
  | [.ptr i 0], [.tc T [p, .vec j n], .tb e q] => some (T = 40 ∧ e = 5 ∧ j = i + 4000 ∧ n = q.length ∧ (p = zB ∨ p = .ptr i 0), .int .i64 q.length, [.tc T [p, .vec j n], .tb e q])
  | _, _ => none
def ckBL : Cf := ⟨bldIds, ckBLK⟩
theorem conBL : FCon pg 18 ckBL := by
  intro args bs q r bs' h hq
  replace h : ckBLK args bs = some (q, r, bs') := h
  unfold ckBLK at h
  split at h
  · cases h
    rename_i i T p j n e q
    refine ⟨rfl, Nat.le_refl _, ?_⟩
    obtain ⟨rfl, rfl, rfl, hn, hp⟩ := hq
    intro S vals hs hh hl hr
    have hh' : S.h = hOf [(i + 9000, .tc 40 [V.shift p, .vec (i + 4000 + 9000) n]), (i + 4000 + 9000, .tb 5 q)] := hh
    match vals, hl with
    | [v0], _ =>
      have r0 : S.rep (.ptr (i + 9000) 0) v0 := hr 0 (by simp)
      have hIJ : i + 9000 ≠ i + 4000 + 9000 := by omega
      obtain ⟨b, pv, lo, hi, a1, a2, a3, a4, a5, a6⟩ := bld_in hs hIJ hh' (pB hp) hn
      obtain ⟨b', e1, rfl⟩ := inv_ptr (S := S) r0
      rw [a1] at e1; cases e1
      refine .inl ⟨by kernel_rfl, (len_w b pv (S.γ (i + 4000 + 9000)) q lo hi S.w a2 a5).mono ?_⟩
      rintro e w' ⟨rfl, rfl⟩
      exact ⟨_, S.γ, S.imm, rfl, by rw [← hh]; exact hs, by rw [← hh]; exact Ext.refl _ _, fun _ _ => rfl, .pure (.int _ _)⟩
  · cases h
@[push_cast] theorem bl_ids (i o : Nat) (l : List V) : ckBL.ids (.ptr i o :: l) = [i, i + 4000] := rfl
@[push_cast] theorem bl_k (i j n : Nat) (T e : TypeId) (p : V) (q : List UInt8) : ckBL.k [.ptr i 0] [.tc T [p, .vec j n], .tb e q] = some (T = 40 ∧ e = 5 ∧ j = i + 4000 ∧ n = q.length ∧ (p = zB ∨ p = .ptr i 0), .int .i64 q.length, [.tc T [p, .vec j n], .tb e q]) := rfl
@[push_cast] theorem infoBld : ((pg.prog.info? 40).bind (fun i => i.zero) = some (.agg #[.pointer none, .slice none 0 0])) = True := eq_true (by kernel_rfl)

def ckItoa : Ck
  | [.int .i64 n] => some (-9223372036854775808 ≤ n ∧ n ≤ 9223372036854775807, .str (Lib.itoa n))
  | _ => none
theorem conItoa : Con pg 16 ckItoa := by
  intro args q r h hq
  unfold ckItoa at h
  split at h
  · cases h
    refine pcall_shelf (by kernel_rfl) rfl fun w hw => (Tryz.strconv_Itoa _ hq.1 hq.2 w (tabPow hw)).mono fun e w' h => ?_
    obtain ⟨he, k, os, rfl⟩ := h
    exact shelf_str he (grow_drew _ _ _)
  · cases h
attribute [push_cast] ckItoa
def ckRepeat : Ck
  | [.str s, .int .i64 n] => some (0 ≤ n ∧ n ≤ 1000000 ∧ s.length ≤ 1000000, .str (Lib.repeatL s n.toNat))
  | _ => none
attribute [push_cast] ckRepeat

def ckTrimRight : Ck
  | [.str s, .str c] => some (s.length ≤ 4611686018427387904 ∧ c.length < 4294967281 ∧ asciiC c = true, .str (Lib.trimRightS s c))
  | _ => none
theorem conTrimRight : Con pg 43 ckTrimRight := by
  intro args q r h hq
  unfold ckTrimRight at h
  split at h
  · cases h
    rename_i s c
    refine pcall_shelf (by kernel_rfl) rfl fun w hw => (Tryz.strings_TrimRightL ⟨s.toArray⟩ ⟨c.toArray⟩ w ?_ ?_ ?_).mono fun e w' h => ?_
    · show s.toArray.size ≤ _
      have := hq.1
      simp; omega
    · show c.toArray.size < _
      have := hq.2.1
      simp; omega
    · exact asciiC_at hq.2.2
    · exact shelf_str h.1 (grow_below h.2)
  · cases h
attribute [push_cast] ckTrimRight

def V.toB : V → Bool
  | .bool b => b
  | _ => false
/-- the first place where p holds; -1: none -/
def findI (n : Nat) (p : Nat → Bool) : Int := match (List.range n).find? p with
  | some i => i
  | none => -1
def ckIndexB : Ck
  | [.sl n f, .bool b] => some (n ≤ 1152921504606846976 ∧ ∀ i, i < n → f i = .bool (f i).toB, .int .i64 (findI n fun i => b == (f i).toB))
  | _ => none
theorem findI_at {n : Nat} {p : Nat → Bool} {i : Nat} (hi : i < n) (h : p i = true) (hn : ∀ j, j < i → p j = false) : findI n p = i := by
  unfold findI
  have : (List.range n).find? p = some i := by
    rw [List.find?_range_eq_some]
    exact ⟨h, by simpa using hi, fun j hj => by simp [hn j hj]⟩
  rw [this]
theorem findI_no {n : Nat} {p : Nat → Bool} (hn : ∀ j, j < n → p j = false) : findI n p = -1 := by
  unfold findI
  have : (List.range n).find? p = none := by
    rw [List.find?_eq_none]
    intro j hj
    simp [hn j (by simpa using hj)]
  rw [this]
theorem conIndexB : Con pg 131 ckIndexB := by
  intro args q r h hq
  unfold ckIndexB at h
  split at h
  · cases h
    rename_i n f b
    generalize hg : (fun i => (f i).toB) = g at *
    refine pcall_args (args' := [.sl n fun i => .bool (g i), .bool b]) ⟨VLe.sl rfl fun i hi => by rw [hq.2 i hi, ← hg], VLe.refl _, trivial⟩ ?_
    have hr : (findI n fun i => b == (f i).toB) = findI n fun i => b == g i := by rw [← hg]
    rw [hr]
    refine w131 (fun _ => false) [] rfl (ctN_ok _) rfl rfl ?_
    push_cast (config := { maxSteps := 10000000 })
    refine LoopW.by ⟨ctN_ok _, fol⟩ (by kernel_rfl) (fun i : Nat => [(0, .sl n fun i => .bool (g i)), (1, .bool b), (7, .int .i64 n), (8, .int .i64 i)]) (fun _ => []) (fun i => i ≤ n ∧ ∀ j, j < i → (b == g j) = false) (fun i => n - i) 0 ?_ fun i hi => ?_
    · push_cast
      exact ⟨by omega, fun j hj => by omega⟩
    · push_cast (config := { maxSteps := 10000000 })
      refine ⟨fun h1 => ⟨by omega, fun h2 => (findI_at h1 (by simp [h2]) hi.2).symm, fun h2 => ⟨by omega, i + 1, ⟨by omega, fun j hj => ?_⟩, by omega, by omega⟩⟩, fun h1 => (findI_no fun j hj => hi.2 j (by omega)).symm⟩
      by_cases e : j = i
      · subst e; exact h2
      · simpa using hi.2 j (by omega)
  · cases h
attribute [push_cast] ckIndexB
def ckContainsB : Ck
  | [.sl n f, .bool b] => some (n ≤ 1152921504606846976 ∧ ∀ i, i < n → f i = .bool (f i).toB, .bool ((List.range n).any fun i => b == (f i).toB))
  | _ => none
theorem findI_any (n : Nat) (p : Nat → Bool) : decide (0 ≤ findI n p) = (List.range n).any p := by
  unfold findI
  cases h : (List.range n).find? p with
  | none =>
    rw [List.find?_eq_none] at h
    have : (List.range n).any p = false := by
      rw [List.any_eq_false]
      exact fun x hx => h x hx
    rw [this]; rfl
  | some i =>
    have h1 := List.find?_some h
    have h2 := List.mem_of_find?_eq_some h
    have : (List.range n).any p = true := List.any_eq_true.2 ⟨i, h2, h1⟩
    rw [this]; simp
theorem conContainsB : Con pg 99 ckContainsB := by
  intro args q r h hq
  unfold ckContainsB at h
  split at h
  · cases h
    refine w99 (fun _ => false) [] rfl (ctA_ok conIndexB (ctN_ok _)) rfl rfl ?_
    push_cast (config := { maxSteps := 10000000 })
    exact ⟨hq, findI_any _ _⟩
  · cases h
attribute [push_cast] ckContainsB V.toB

def ckFits : Ck
  | [.str p, .str s, .bool w] => some (p.length ≤ 1048576 ∧ s.length ≤ 1048576, .bool (fitsB p s w))
  | _ => none
theorem conFits : Con pg 65 ckFits := by
  have hct : CtOk pg (ctA 99 ckContainsB ctN) := ctA_ok conContainsB (ctN_ok _)
  intro args q r h hq
  unfold ckFits at h
  split at h
  · cases h
    rename_i p s w
    refine w65 (fun _ => false) [] rfl hct rfl rfl ?_
    push_cast (config := { maxSteps := 10000000 })
    refine ⟨?_, ?_, ?_, ?_, LoopW.adj ⟨hct, fol⟩ (by kernel_rfl) [.ren 26 15] (fun i : Nat => [(0, .str p), (1, .str s), (2, .bool w), (7, .vec 15 (s.length + 1)), (19, .int .i64 p.length), (20, .int .i64 i)]) (fun i => [(15, .vec 1 (s.length + 1) fun k => .bool (reachN p s i k))]) (fun i => i ≤ p.length) (fun i => p.length - i) 0 ?_ fun i hi => ?_⟩
    rotate_left 4
    · push_cast (config := { maxSteps := 10000000 })
      refine ⟨by omega, fun k hk => ?_⟩
      simp only [setF, reachN]
      by_cases hk0 : k = 0 <;> simp [hk0]
    · push_cast (config := { maxSteps := 10000000 })
      refine ⟨fun hip => ⟨by omega, by omega, LoopW.adj ⟨hct, fol⟩ (by kernel_rfl) [] (fun k : Nat => [(0, .str p), (1, .str s), (2, .bool w), (7, .vec 15 (s.length + 1)), (19, .int .i64 p.length), (20, .int .i64 i), (8, .int .i64 i), (9, .vec 26 (s.length + 1)), (10, .bool (decide ((p.getD i 0).toNat = 42) && (List.range k).any (reachN p s i))), (28, .int .i64 (s.length + 1 : Nat)), (29, .int .i64 k)])
        (fun k => [(15, .vec 1 (s.length + 1) fun k => .bool (reachN p s i k)), (26, .vec 1 (s.length + 1) fun j => .bool (decide (j < k) && reachN p s (i + 1) j))]) (fun k => k ≤ s.length + 1) (fun k => s.length + 1 - k) 0 ?_ fun k hk => ?_⟩, ?_⟩
      · push_cast (config := { maxSteps := 10000000 })
        exact ⟨by simp, fun j _ => by simp⟩
      · push_cast (config := { maxSteps := 10000000 })
        have c42 : ((((p.getD i 0).toNat : Nat) : Int) = 42) ↔ (p.getD i 0).toNat = 42 := by omega
        have any1 : (List.range (k + 1)).any (reachN p s i) = ((List.range k).any (reachN p s i) || reachN p s i k) := by simp [List.range_succ]
        refine ⟨fun h1 => ⟨by omega, fun h2 => ⟨fun h => (by first | exact h | exact ⟨h, by omega⟩ | omega), fun h => (by first | exact h | exact ⟨h, by omega⟩ | omega), by omega, by omega, by omega, k + 1, by omega, by omega, ⟨?_, by omega⟩, fun j hj => ?_⟩, fun h2 => ⟨fun h3 => ⟨by omega, by omega, by omega, fun h => (by first | exact h | exact ⟨h, by omega⟩ | omega), fun h => (by first | exact h | exact ⟨h, by omega⟩ | omega), fun h => (by first | exact h | exact ⟨h, by omega⟩ | omega), by omega, by omega, by omega, k + 1, by omega, by omega, ⟨?_, by omega⟩, fun j hj => ?_⟩, fun h3 => ⟨by omega, k + 1, by omega, by omega, ⟨?_, by omega⟩, fun j hj => ?_⟩⟩⟩, fun h1 => ⟨by omega, i + 1, by omega, by omega, by omega, fun j hj => ?_⟩⟩
        · rw [any1]; simp [-List.getD_eq_getElem?_getD, c42.1 h2]
        · simp only [setF]
          by_cases e : j = k
          · subst e; simp [-List.getD_eq_getElem?_getD, reachN, stepR, c42.1 h2, any1]
          · have : (j < k + 1) ↔ j < k := by omega
            simp [-List.getD_eq_getElem?_getD, e, this]
        · have : ¬ (p.getD i 0).toNat = 42 := fun h => h2 (c42.2 h)
          simp [-List.getD_eq_getElem?_getD, this]
        · have n42 : ¬ (p.getD i 0).toNat = 42 := fun h => h2 (c42.2 h)
          have hk1 : ((k : Int) - 1).toNat = k - 1 := by omega
          have hb : ∀ a b : Nat, ((a : Int) == (b : Int)) = (a == b) := fun a b => by rw [Bool.eq_iff_iff]; simp only [beq_iff_eq]; omega
          simp only [setF, hk1, hb]
          by_cases e : j = k
          · subst e
            have h0 : 0 < j := by omega
            simp [-List.getD_eq_getElem?_getD, reachN, stepR, n42, h0]
          · have : (j < k + 1) ↔ j < k := by omega
            simp [-List.getD_eq_getElem?_getD, e, this]
        · have : ¬ (p.getD i 0).toNat = 42 := fun h => h2 (c42.2 h)
          simp [-List.getD_eq_getElem?_getD, this]
        · have hk0 : k = 0 := by omega
          subst hk0
          by_cases e : j = 0
          · subst e
            have : ¬ (p.getD i 0).toNat = 42 := fun h => h2 (c42.2 h)
            simp [-List.getD_eq_getElem?_getD, reachN, stepR, this]
          · have : ¬ j < 1 := by omega
            simp [-List.getD_eq_getElem?_getD, this]
        · have : j < k := by omega
          simp [-List.getD_eq_getElem?_getD, this]
      · intro h1
        have hi' : i = p.length := by omega
        subst hi'
        refine ⟨fun h => ⟨by omega, by omega, by simp [fitsB, h]⟩, fun h => ?_⟩
        exact ⟨by omega, by simp [fitsB, h]⟩
    all_goals omega
  · cases h
attribute [push_cast] ckFits

theorem idx_at {s : List UInt8} {c : UInt8} {k : Nat} (h : Lib.indexByte s c = (k : Int)) : k < s.length ∧ s.getD k 0 = c ∧ ∀ j, j < k → s.getD j 0 ≠ c := by
  induction s generalizing k with
  | nil => simp only [Lib.indexByte] at h; omega
  | cons b l ih =>
    unfold Lib.indexByte at h
    by_cases hb : b = c
    · subst hb
      simp only [beq_self_eq_true, if_true] at h
      have : k = 0 := by omega
      subst this
      exact ⟨by simp, by simp, fun j hj => by omega⟩
    · rw [if_neg (by simpa using hb)] at h
      have hge := Lib.indexByte_ge l c
      by_cases h1 : Lib.indexByte l c = -1
      · rw [if_pos (by simpa using h1)] at h; omega
      · rw [if_neg (by simpa using h1)] at h
        obtain ⟨k', hk'⟩ : ∃ k' : Nat, Lib.indexByte l c = (k' : Int) := ⟨(Lib.indexByte l c).toNat, by omega⟩
        obtain ⟨a1, a2, a3⟩ := ih hk'
        have : k = k' + 1 := by omega
        subst this
        refine ⟨by simp; omega, by simpa using a2, fun j hj => ?_⟩
        cases j with
        | zero => simpa using hb
        | succ j => simpa using a3 j (by omega)
theorem idx_no {s : List UInt8} {c : UInt8} (h : Lib.indexByte s c < 0) : ∀ j, j < s.length → s.getD j 0 ≠ c := by
  induction s with
  | nil => intro j hj; simp at hj
  | cons b l ih =>
    unfold Lib.indexByte at h
    by_cases hb : b = c
    · subst hb; simp at h
    · rw [if_neg (by simpa using hb)] at h
      have hge := Lib.indexByte_ge l c
      by_cases h1 : Lib.indexByte l c = -1
      · intro j hj
        cases j with
        | zero => simpa using hb
        | succ j => simpa using ih (by omega) j (by simpa using hj)
      · rw [if_neg (by simpa using h1)] at h; omega
theorem idx_no_mem {s : List UInt8} {c : UInt8} (h : Lib.indexByte s c < 0) : c ∉ s := by
  intro hm
  obtain ⟨j, hj, he⟩ := List.getElem_of_mem hm
  have := idx_no h j hj
  rw [List.getD_eq_getElem?_getD, List.getElem?_eq_getElem hj] at this
  exact this he
theorem idx_take_mem {s : List UInt8} {c : UInt8} {k : Nat} (h : Lib.indexByte s c = (k : Int)) : c ∉ s.take k := by
  intro hm
  obtain ⟨j, hj, he⟩ := List.getElem_of_mem hm
  have hk := idx_at h
  simp at hj
  have := hk.2.2 j (by omega)
  rw [List.getD_eq_getElem?_getD, List.getElem?_eq_getElem (by omega)] at this
  rw [List.getElem_take] at he
  exact this he
theorem idx_split {s : List UInt8} {c : UInt8} {k : Nat} (h : Lib.indexByte s c = (k : Int)) : s = s.take k ++ c :: s.drop (k + 1) := by
  have hk := idx_at h
  rw [← hk.2.1]
  rw [List.getD_eq_getElem?_getD, List.getElem?_eq_getElem hk.1, Option.getD_some, ← List.drop_eq_getElem_cons hk.1, List.take_append_drop]

def ckHexV : Ck
  | [.int .u8 c] => some (0 ≤ c ∧ c < 256 ∧ isHex c = true, .int .u8 (hexV c))
  | _ => none
theorem conHexV : Con pg 132 ckHexV := by
  intro args q r h hq
  unfold ckHexV at h
  split at h
  · cases h
    refine w132 (fun _ => false) [] rfl (ctA_ok conIsDig (ctN_ok _)) rfl rfl ?_
    push_cast (config := { maxSteps := 10000000 })
    rename_i c
    obtain ⟨h1, h2, h3⟩ := hq
    simp only [hexV]
    simp only [isHex, isDig, Bool.or_eq_true, Bool.and_eq_true, decide_eq_true_eq] at h3
    simp only [isDig, Bool.and_eq_true, decide_eq_true_eq, Bool.and_eq_false_imp, decide_eq_false_iff_not]
    refine ⟨fun h => ?_, fun h => ⟨fun h' => ?_, fun h' => ?_⟩⟩
    · rw [if_pos h]; omega
    · rw [if_neg (by omega), if_pos h']; omega
    · rw [if_neg (by omega), if_neg h']; omega
  · cases h
attribute [push_cast] ckHexV

def ckNormalRow : Ck
  | [.str s] => some (wfL s = true ∧ s.length ≤ 1073741824, .str (normL s))
  | _ => none
theorem conNormalRow : Con pg 101 ckNormalRow := by
  have hct := (ctA_ok conHexV (ctA_ok conIsLet (ctA_ok conIsDig (ctN_ok _))))
  intro args q r h hq
  unfold ckNormalRow at h
  split at h
  · cases h
    rename_i s
    refine w101 (fun _ => false) [] rfl hct rfl rfl ?_
    push_cast (config := { maxSteps := 10000000 })
    refine LoopW.adj ⟨hct, fol⟩ (by kernel_rfl) [.nv 3 21 1 (byF [])] (fun t : Nat × List UInt8 => [(0, .str s), (3, .vec 21 t.2.length), (4, .int .i64 t.1)]) (fun t => [(21, .vec 1 t.2.length (byF t.2))]) (fun t => t.1 ≤ s.length ∧ t.2 ++ normL (s.drop t.1) = normL s ∧ wfL (s.drop t.1) = true) (fun t => s.length - t.1) (0, []) ?_ fun t ht => ?_
    · push_cast (config := { maxSteps := 10000000 })
      simp [hq.1]
    · obtain ⟨i, l⟩ := t
      push_cast (config := { maxSteps := 10000000 })
      obtain ⟨h1, h2, h3⟩ : i ≤ s.length ∧ l ++ normL (s.drop i) = normL s ∧ wfL (s.drop i) = true := ht
      have hl : l.length ≤ s.length := by
        have k1 := congrArg List.length h2
        have k2 := normL_len s
        simp only [List.length_append] at k1; omega
      refine ⟨fun hi => ⟨hi, fun hc => ⟨hi, by omega, by omega, (i + 1, l ++ [s.getD i 0]), ⟨by simp; omega, ?_, ?_⟩, by simp; omega, by simp, by simp, fun j hj => ?_⟩, fun hc => ?_⟩, fun hn => ?_⟩
      · rw [normL_no hi (fun h => hc (by rw [h.1]; rfl))] at h2
        simpa using h2
      · exact wfL_no hi (fun h => hc (by rw [h]; rfl)) h3
      · exact appF_lit (bs := [s.getD i 0]) rfl hj
      · have hc' : s.getD i 0 = 37 := (u8_eq _ _).2 hc
        obtain ⟨k1, k2, k3, k4⟩ := wfL_hex hi hc' h3
        have hN1 := hexN_lt k2
        have hN2 := hexN_lt k3
        rw [or_hex k2 k3]
        have e := normL_hex k1 hc' k2 k3
        generalize hv : 16 * hexN (s.getD (i + 1) 0) + hexN (s.getD (i + 2) 0) = v at *
        have hv' : v < 256 := by omega
        have a1 := nib_and ⟨v, hv'⟩
        simp only at a1
        rw [a1, nib_shr]
        have hle := u8_lt (s.getD (i + 1) 0)
        have hle2 := u8_lt (s.getD (i + 2) 0)
        refine ⟨by omega, by omega, ⟨by omega, k2⟩, by omega, by omega, ⟨by omega, k3⟩, fun hf => ⟨by omega, by omega, by omega, (i + 3, l ++ [UInt8.ofNat v]), ⟨by simp; omega, ?_, k4⟩, by simp; omega, by simp; omega, by simp, fun j hj => ?_⟩, fun hf => ⟨by omega, by omega, by omega, by omega, by omega, (i + 3, l ++ [37, hexRow.getD (v / 16) 0, hexRow.getD (v % 16) 0]), ⟨by simp; omega, ?_, k4⟩, by simp; omega, by simp; omega, by simp, fun j hj => ?_⟩⟩
        · rw [e, encB, if_pos (by simp only [isFreeI]; grind)] at h2
          simpa using h2
        · refine appF_lit ?_ hj
          simp [ofNat_toNat hv']
        · rw [e, encB, if_neg (by simp only [isFreeI]; grind)] at h2
          simpa using h2
        · refine appF_lit ?_ hj
          have e1 : ((v : Int) / 16).toNat = v / 16 := by omega
          have e2 : ((v : Int) % 16).toNat = v % 16 := by omega
          simp [hexRow, e1, e2]
      · have : i = s.length := by omega
        subst this
        rw [bytesOf_byF]
        simpa [normL] using h2
  · cases h
attribute [push_cast] ckNormalRow

theorem normL_app {a b : List UInt8} (h : (37 : UInt8) ∉ a) : normL (a ++ b) = a ++ normL b := by
  induction a with
  | nil => rfl
  | cons c r ih =>
    have h1 : c ≠ 37 := fun e => h (by simp [e])
    have h2 := ih fun hm => h (by simp [hm])
    have := normL_no (s := c :: (r ++ b)) (i := 0) (by simp) (fun hh => h1 (by simpa using hh.1))
    simp only [List.drop_zero, List.getD_cons_zero] at this
    rw [List.cons_append, this]
    simp [h2]
def ckNormalRowS : Ck
  | [.str s] => some (s.length ≤ 1073741824, .str (normL s))
  | _ => none
theorem conNormalRowS : Con pg 66 ckNormalRowS := by
  have hct := (ctA_ok conIndexByte (ctA_ok conIsHex (ctA_ok conNormalRow (ctN_ok _))))
  intro args q r h hq
  unfold ckNormalRowS at h
  split at h
  · cases h
    rename_i s
    refine w66 (fun _ => false) [] rfl hct rfl rfl ?_
    push_cast (config := { maxSteps := 10000000 })
    refine LoopW.adj ⟨hct, fol⟩ (by kernel_rfl) [] (fun t : List UInt8 × List UInt8 => [(0, .str t.1), (3, .str t.2)]) (fun _ => []) (fun t => t.2 ++ normL t.1 = normL s ∧ t.1.length ≤ s.length) (fun t => t.1.length) (s, []) ?_ fun t ht => ?_
    · push_cast (config := { maxSteps := 10000000 })
      simp
    · obtain ⟨r, l⟩ := t
      push_cast (config := { maxSteps := 10000000 })
      obtain ⟨h1, h2⟩ : l ++ normL r = normL s ∧ r.length ≤ s.length := ht
      have key : ∀ k : Nat, Lib.indexByte r 37 = (k : Int) → normL r = r.take k ++ normL (r.drop k) ∧ k < r.length ∧ r.getD k 0 = 37 := fun k hk => ⟨by
        conv => lhs; rw [← List.take_append_drop k r]
        exact normL_app (idx_take_mem hk), (idx_at hk).1, (idx_at hk).2.1⟩
      have hl : l.length + (normL r).length ≤ s.length := by
        have k1 := congrArg List.length h1
        have k2 := normL_len s
        simp only [List.length_append] at k1; omega
      refine ⟨fun hr => ⟨fun hn => ?_, fun hn => ?_⟩, fun hr => ?_⟩
      · have := normL_app (a := r) (b := []) (idx_no_mem hn)
        simp [normL] at this
        rw [this] at h1
        exact ⟨by omega, h1⟩
      · obtain ⟨k, hk⟩ : ∃ k : Nat, Lib.indexByte r 37 = (k : Int) := ⟨(Lib.indexByte r 37).toNat, by omega⟩
        obtain ⟨k1, k2, k3⟩ := key k hk
        rw [hk]
        push_cast (config := { maxSteps := 10000000 })
        rw [k1] at h1
        refine ⟨by omega, fun h => by omega, fun h => by omega, fun h => ⟨h, by omega⟩, fun h => ⟨h, by omega⟩, fun h => ?_, fun h => ?_⟩
        · obtain ⟨⟨a1, a2⟩, a3⟩ := h
          have e := normL_hex (s := r) (i := k) (by omega) k3 a2 a3
          have e2 : normL ((r.drop k).take 3) = encB (16 * hexN (r.getD (k + 1) 0) + hexN (r.getD (k + 2) 0)) := by
            rw [drop_at (by omega : k < r.length), drop_at (by omega : k + 1 < r.length), drop_at (by omega : k + 1 + 1 < r.length)]
            simp only [List.take_succ_cons, List.take_zero, normL]
            rw [if_pos ⟨k3, a2, a3⟩, List.append_nil]
          have e3 : wfL ((r.drop k).take 3) = true := by
            rw [drop_at (by omega : k < r.length), drop_at (by omega : k + 1 < r.length), drop_at (by omega : k + 1 + 1 < r.length)]
            simp only [List.take_succ_cons, List.take_zero, wfL]
            rw [if_pos k3]
            simp only [Bool.and_true, Bool.and_eq_true]
            exact ⟨a2, a3⟩
          have e4 := normL_len ((r.drop k).take 3)
          simp only [List.length_take, List.length_drop] at e4
          refine ⟨by omega, by omega, by omega, by omega, ⟨e3, by omega⟩, by omega, by omega, by omega, (r.drop (k + 3), l ++ r.take k ++ normL ((r.drop k).take 3)), ⟨?_, by simp; omega⟩, by simp; omega, rfl, rfl⟩
          rw [e] at h1
          rw [e2]
          simpa using h1
        · have e := normL_no (s := r) (i := k) k2 (fun hh => by
            have := h ⟨by omega, hh.2.2.1⟩
            have h3 := hh.2.2.2
            simp only [isHexB] at h3
            rw [this] at h3; cases h3)
          refine ⟨by omega, by omega, by omega, by omega, by omega, (r.drop (k + 1), l ++ r.take (k + 1)), ⟨?_, by simp; omega⟩, by simp; omega, rfl, rfl⟩
          rw [e] at h1
          have : r.take (k + 1) = r.take k ++ [r.getD k 0] := by
            rw [List.take_add_one, List.getD_eq_getElem?_getD, List.getElem?_eq_getElem k2]; rfl
          rw [this]
          simpa using h1
      · subst hr
        simpa [normL] using h1
  · cases h
attribute [push_cast] ckNormalRowS

def ckHasSuf : Ck
  | [.str s, .str t] => some ((s.length : Int) ≤ 4611686018427387904, .bool (hasSuf s t))
  | _ => none
theorem conHasSuf : Con pg 130 ckHasSuf := by
  intro args q r h hq
  unfold ckHasSuf at h
  split at h
  · cases h
    refine w130 (fun _ => false) [] rfl (ctN_ok _) rfl rfl ?_
    push_cast (config := { maxSteps := 10000000 })
    rename_i s t
    exact ⟨by omega, by omega, by unfold hasSuf; rfl⟩
  · cases h
attribute [push_cast] ckHasSuf

def ckCutSuf : Ck
  | [.str s, .str t] => some ((s.length : Int) ≤ 4611686018427387904, .tup [.str (bif hasSuf s t then s.take (s.length - t.length) else s), .bool (hasSuf s t)])
  | _ => none
theorem conCutSuf1 : Con pg 98 ckCutSuf := by
  intro args q r h hq
  unfold ckCutSuf at h
  split at h
  · cases h
    refine w98 (fun _ => false) [] rfl (ctA_ok conHasSuf (ctN_ok _)) rfl rfl ?_
    push_cast (config := { maxSteps := 10000000 })
    rename_i s t
    have hlen : hasSuf s t = true → t.length ≤ s.length := fun h => by simp [hasSuf] at h; exact h.1
    refine ⟨hq, fun h => by simp [h], fun h => ?_⟩
    have := hlen h
    rw [h]
    exact ⟨by omega, by omega, rfl, rfl⟩
  · cases h
attribute [push_cast] ckCutSuf
theorem conCutSuf : Con pg 64 ckCutSuf := by
  intro args q r h hq
  unfold ckCutSuf at h
  split at h
  · cases h
    refine w64 (fun _ => false) [] rfl (ctA_ok conCutSuf1 (ctN_ok _)) rfl rfl ?_
    push_cast (config := { maxSteps := 10000000 })
    exact hq
  · cases h

def ckMatch : Ck
  | [.str p, .str s] => some (p.length ≤ 1048000 ∧ s.length ≤ 1048000, .bool (matchesB p s))
  | _ => none
theorem conMatch : Con pg 38 ckMatch := by
  have hct := (ctA_ok conFits (ctA_ok conNormalRowS (ctA_ok conCutSuf (ctN_ok _))))
  intro args q r h hq
  unfold ckMatch at h
  split at h
  · cases h
    rename_i p s
    refine w38 (fun _ => false) [] rfl hct rfl rfl ?_
    push_cast (config := { maxSteps := 10000000 })
    have := normL_len (if hasSuf p [36] = true then p.take (p.length - 1) else p)
    cases h : hasSuf p [36]
    · simp only [h, cond_false, Bool.false_eq_true, if_false] at this ⊢
      exact ⟨by omega, by omega, by omega, by simp [matchesB, h]⟩
    · simp only [h, cond_true, if_true] at this ⊢
      have h2 : (p.take (p.length - 1)).length ≤ p.length := by simp
      exact ⟨by omega, by omega, by omega, by simp [matchesB, h]⟩
  · cases h
attribute [push_cast] ckMatch

def ckMatches : Ck
  | [.str p, .str s] => some (True, .tup [.bool (matchesR p s).1, .int .i64 (matchesR p s).2])
  | _ => none
theorem conMatches : Con pg 20 ckMatches := by
  have hct := (ctA_ok conPat (ctA_ok conMatch (ctN_ok _)))
  intro args q r h hq
  unfold ckMatches at h
  split at h
  · cases h
    rename_i p s
    refine w20 (fun _ => false) [] rfl hct rfl rfl ?_
    push_cast (config := { maxSteps := 10000000 })
    refine ⟨fun h => by simp [matchesR, h], fun h => ⟨fun h2 => ?_, fun h2 => ?_⟩⟩
    · rw [matchesR, if_pos h, if_pos (by omega)]; simp
    · have := (patOk_iff p).1 h
      rw [matchesR, if_pos h, if_neg (by omega)]
      exact ⟨by omega, rfl, rfl⟩
  · cases h
attribute [push_cast] ckMatches

def ckAwake : Ck
  | [] => some (True, .bool true)
  | _ => none
theorem conAwake4 : Con pg 8 ckAwake := by
  have hct := (ctA_ok conMatches (ctN_ok _))
  intro args q r h hq
  unfold ckAwake at h
  split at h
  · cases h
    refine w8 (fun _ => false) [] rfl hct rfl rfl ?_
    push_cast (config := { maxSteps := 10000000 })
    decide
  · cases h
attribute [push_cast] ckAwake

end Go.Abs
