/- what functions of this program compute: contracts, each a function's own -/
import Derived.Test.YtakfogogdklefaaGreatDoorAbsK2
import Derived.Test.YtakfogogdklefaaGreatDoorAbsFacts
import Derived.Test.YtakfogogdklefaaGreatDoorAbsF8
import Derived.Test.YtakfogogdklefaaGreatDoorAbsShelf
import Derived.Lib.SplitLaws
import Derived.Lib.SlTrimSet
import Derived.Lib.Atoi
import Derived.Lib.Itoa
import Derived.Lib.ItoaNum
import Derived.Lib.AtoiErrMem
import Derived.Lib.Join
import Derived.Lib.Repeat
import Derived.Lib.IndexMore
import Derived.Lib.ItoaLen
import Derived.Shelf.Spec.SlicesInsert
import Derived.Shelf.Spec.SlicesInsertGrow
import Derived.Lib.Overlaps
import Derived.Lib.AppendZerosOnto
import Derived.Laws.NewBlocks
import Derived.WalkKit
import Derived.Lib.Walk
import Derived.OwnWalkIn
import Derived.TacticsInMore
import Derived.RegionIn
import Derived.LoopNIn
import Derived.LoopIn
import Derived.Shelf.Abstract
namespace Go.Abs
open Go Go.Proofs
set_option maxHeartbeats 4000000
set_option maxRecDepth 100000
set_option linter.unusedVariables false
set_option linter.unusedSimpArgs false
open Go.RowKit in
theorem chunk_w (a : Option Addr) (n c : Nat) (k : Int) (w : World) (h : 1 ≤ k) :
    Calls Tryz.prog 51 #[.slice a n c, .int .i64 k] w fun e w' =>
      e = .returned (.func (.func 97) #[] #[.pointer (some ⟨w.heap.size, 0, none⟩), .pointer (some ⟨w.heap.size + 1, 0, none⟩)]) ∧
      w' = (w.alloc (.cells #[.slice a n c] 22)).alloc (.cells #[.int .i64 k] 3) := by
  go_enter Tryz.func51, Tryz.ntmps51
  go_wp2
  go_ret
  exact ⟨rfl, rfl⟩
def chunkV (a : Option Addr) (n c k j : Nat) : Value := .slice (a.map (·.add (j * k * 3))) (min k (n - j * k)) (min k (n - j * k))
set_option maxRecDepth 100000 in
open Go.RowKit in
theorem chunk1_w (l B1 B2 o1 o2 n c k : Nat) (a : Option Addr) (hk : 1 ≤ k) (hn : n ≤ 1000000000) (hk2 : k ≤ 1000000000) (hc : n ≤ c) (J : Nat → World → Prop) (W : World)
    (hcell : ∀ j W, J j W → W.cell? ⟨B1, o1, none⟩ = some (.slice a n c) ∧ W.cell? ⟨B2, o2, none⟩ = some (.int .i64 (k : Int)))
    (hY : ∀ j W, J j W → j * k < n → YieldAt Fence.wide 0 Tryz.prog l #[chunkV a n c k j] W fun e W' => e = .returned (.bool true) ∧ J (j + 1) W') (hJd : ∀ j W, J j W → J j W.drew) (h0 : J 0 W) :
    CallsIn Fence.wide 0 Tryz.prog 97 #[.func (.yield l) #[] #[], .pointer (some ⟨B1, o1, none⟩), .pointer (some ⟨B2, o2, none⟩)] W fun e W' => (∃ v, e = .returned v) ∧ ∃ m, n ≤ m * k ∧ (m = 0 ∨ (m - 1) * k < n) ∧ J m W' := by
  have t22 := Tryz.underlying22
  have mixed : Tryz.prog.follows .mixedOrders = true := fol
  refine callsIn_of_wp Tryz.func97 rfl trivial ?_ rfl
  simp only [Tryz.ntmps97, List.size_toArray, List.length_cons, List.length_nil, Nat.reduceAdd, Nat.reduceSub, Array.replicate_succ, Array.replicate_zero, List.push_toArray, List.append_toArray, List.nil_append, List.cons_append]
  gi_wp2
  gi_loopw [4] (fun i wr => ∃ j : Nat, i = .int .i64 ((j * k : Nat) : Int) ∧ J j wr ∧ (j = 0 ∨ (j - 1) * k < n))
    (fun i _ => n - (intOf i).toNat)
  case atStart => exact ⟨0, by simp, h0, .inl rfl⟩
  case round =>
    obtain ⟨j, rfl, hJ, hj⟩ := hrel
    obtain ⟨hc1, hc2⟩ := hcell j wr hJ
    generalize hq : j * k = q at *
    by_cases hlt : q < n
    · gi_wp2
      gi_region
      have hJd' := hJd j wr hJ
      obtain ⟨hd1, hd2⟩ := hcell j _ hJd'
      obtain ⟨fn, tmps, assign, body, hy, hR⟩ := hY j _ hJd' (by omega)
      unfold chunkV at hy
      rw [hq] at hy
      rw [show min (k : Int) ((n - q : Nat) : Int) = ((min k (n - q) : Nat) : Int) by omega]
      obtain ⟨e1, e2, e3⟩ : 1 ≤ min k (n - q) ∧ min k (n - q) ≤ k ∧ min k (n - q) ≤ n - q := by omega
      generalize min k (n - q) = e at *
      generalize wr.drew = w2 at *
      gi_wp2
      refine ⟨rfl, hR.mono ?_⟩
      rintro e' W3 ⟨rfl, hJ3⟩
      obtain ⟨hc3, hc4⟩ := hcell _ _ hJ3
      gi_wp2
      go_roundw
      case rel => exact ⟨j + 1, by rw [Nat.succ_mul, hq]; simp, hJ3, .inr (by simpa [hq] using hlt)⟩
      case measure => simp [intOf]; omega
    · gi_wp2
      go_end0
      exact ⟨⟨_, rfl⟩, j, by omega, hj, hJ⟩

/-- the parts of a slice -/
def chunksV (n : Nat) (f : Nat → V) (k : Nat) : List V := (List.range ((n + k - 1) / k)).map fun j => .sl (min k (n - j * k)) (shF f (j * k))
theorem chunksV_len (n : Nat) (f : Nat → V) (k : Nat) : (chunksV n f k).length = (n + k - 1) / k := by simp [chunksV]
theorem chunksV_at (n : Nat) (f : Nat → V) (k j : Nat) (h : j < (chunksV n f k).length) : (chunksV n f k).getD j .any = .sl (min k (n - j * k)) (shF f (j * k)) := by
  rw [chunksV_len] at h
  simp [chunksV, List.getD_eq_getElem?_getD, h]
theorem repP_sub {imm : Nat → Prop} {w : World} {n c k j : Nat} {f : Nat → V} {a : Option Addr} (hf : ∀ i, i < n → (f i).flat.length = 3) (h : RepP imm w (.sl n f) (.slice a n c)) (hj : j * k < n) (hk : 1 ≤ k) :
    RepP imm w (.sl (min k (n - j * k)) (shF f (j * k))) (chunkV a n c k j) := by
  generalize hq : j * k = q at *
  unfold chunkV
  rw [hq]
  generalize he : min k (n - q) = e
  obtain ⟨e1, e2⟩ : 1 ≤ e ∧ q + e ≤ n := by omega
  cases h with
  | sl0 => omega
  | sl _ _ b off c sz u hb hnc hs hf' hc ho hp =>
    have hz : sz = 3 := by have := hf' 0 (by omega); rw [hf 0 (by omega)] at this; exact this.symm
    subst hz
    simp only [Option.map_some, addr_add]
    refine .sl e _ b (off + q * 3) e 3 (fun i t => u (i + q) t) hb (Nat.le_refl _) hs (fun i hi => hf' _ (by omega)) (fun i t hi ht => ?_) (fun i t hi ht => ho _ _ (by omega) ht) (fun i t hi ht => hp _ _ (by omega) ht)
    rw [← hc (i + q) t (by omega) ht]
    congr 2
    omega
theorem vals2' {vals : List Value} (h : vals.length = 2) : ∃ a b, vals = [a, b] := by
  match vals, h with
  | [a, b], _ => exact ⟨a, b, rfl⟩
theorem chunkIter {n k : Nat} {f : Nat → V} (hf : ∀ i, i < n → (f i).flat.length = 3) (hn : n ≤ 1000000000) (hk : 1 ≤ k) (hk2 : k ≤ 1000000000) :
    IterOk pg 97 [.iptr [.sl n f], .iptr [.int .i64 (k : Int)]] (chunksV n f k) := by
  refine ⟨by kernel_rfl, fun S vals l J hs hl hr hi hg hY h0 => ?_⟩
  obtain ⟨v1, v2, rfl⟩ := vals2' hl
  have r1 := hr 0 (by simp)
  have r2 := hr 1 (by simp)
  obtain ⟨b1, o1, u1, rfl, hb1, hc1, -, hp1⟩ := inv_iptr (S := S) r1
  obtain ⟨b2, o2, u2, rfl, hb2, hc2, -, hp2⟩ := inv_iptr (S := S) r2
  have c1 := hc1 0 (by simp)
  have p1 := hp1 0 (by simp)
  have c2 := hc2 0 (by simp)
  have p2 := hp2 0 (by simp)
  simp only [List.getD_cons_zero, Nat.add_zero] at c1 p1 c2 p2
  generalize u1 0 = w1 at *
  generalize u2 0 = w2 at *
  obtain ⟨a, c, rfl, hnc⟩ : ∃ a c, w1 = .slice a n c ∧ n ≤ c := by
    cases p1 with
    | sl0 => exact ⟨_, _, rfl, Nat.zero_le _⟩
    | sl _ _ _ _ _ _ _ _ hnc => exact ⟨_, _, rfl, hnc⟩
  obtain rfl : w2 = .int .i64 (k : Int) := by cases p2; rfl
  have hlen := chunksV_len n f k
  have cnt : ∀ j, j * k < n ↔ j < (n + k - 1) / k := fun j => by
    rw [show (j < (n + k - 1) / k) = (j + 1 ≤ (n + k - 1) / k) from rfl, Nat.le_div_iff_mul_le (by omega), Nat.succ_mul]; omega
  refine (chunk1_w l b1 b2 o1 o2 n c k a hk hn hk2 hnc J S.w (fun j W hJ => ?_) (fun j W hJ hlt => ?_) (fun j W hJ => hg j W _ hJ ⟨rfl, rfl, rfl, Nat.le_refl _, fun _ _ => rfl⟩) h0).mono ?_
  · have := hi j W hJ
    exact ⟨(cell_same (this b1 hb1) o1).trans c1, (cell_same (this b2 hb2) o2).trans c2⟩
  · have hlt' : j < (chunksV n f k).length := by rw [hlen]; exact (cnt j).1 hlt
    refine hY j W _ hJ hlt' ?_ rfl
    rw [chunksV_at n f k j hlt']
    exact repP_sub hf p1 hlt hk
  · rintro e W' ⟨he, m, h1, h2, hJ⟩
    refine ⟨he, ?_⟩
    have : m = (chunksV n f k).length := by
      rw [hlen]
      apply Nat.le_antisymm
      · rcases h2 with rfl | h2
        · exact Nat.zero_le _
        · have := (cnt _).1 h2; omega
      · apply Nat.le_of_not_lt
        intro h
        have := (cnt m).2 h
        omega
    rw [← this]; exact hJ
def ckChunk : Ck
  | [.sl n f, .int .i64 k] => some (1 ≤ k, .fn (.func 97) [] [.iptr [.sl n f], .iptr [.int .i64 k]])
  | _ => none
theorem conChunk : Con pg 51 ckChunk := by
  intro args q r h hq
  unfold ckChunk at h
  split at h
  · cases h
    rename_i n f k
    intro S vals hs hh hl hr
    obtain ⟨v1, v2, rfl⟩ := vals2' hl
    have r1 := hr 0 (by simp)
    have r2 := hr 1 (by simp)
    obtain rfl := inv_int (S := S) r2
    have p1 := inv_sl (S := S) r1
    obtain ⟨a, c, rfl⟩ : ∃ a c, v1 = .slice a n c := by
      cases p1 with
      | sl0 => exact ⟨_, _, rfl⟩
      | sl => exact ⟨_, _, rfl⟩
    refine .inl ⟨by kernel_rfl, (chunk_w a n c k S.w hq).mono ?_⟩
    rintro e w' ⟨rfl, rfl⟩
    have g0 := (grow_alloc S.w (.cells #[.slice a n c] 22))
    have g1 := (grow_alloc (S.w.alloc (.cells #[.slice a n c] 22)) (.cells #[.int .i64 k] 3))
    have hg : World.grow S.w ((S.w.alloc (.cells #[.slice a n c] 22)).alloc (.cells #[.int .i64 k] 3)) := ⟨rfl, rfl, rfl, Nat.le_trans g0.2.2.2.1 g1.2.2.2.1, fun b hb => (g1.2.2.2.2 b (Nat.lt_of_lt_of_le hb g0.2.2.2.1)).trans (g0.2.2.2.2 b hb)⟩
    have sz : ((S.w.alloc (.cells #[.slice a n c] 22)).alloc (.cells #[.int .i64 k] 3)).heap.size = S.w.heap.size + 2 := by simp
    have at0 : ((S.w.alloc (.cells #[.slice a n c] 22)).alloc (.cells #[.int .i64 k] 3)).cell? ⟨S.w.heap.size, 0, none⟩ = some (.slice a n c) := by
      refine (cell_same (g1.2.2.2.2 S.w.heap.size (by simp)) 0).trans ?_
      have : (S.w.alloc (.cells #[.slice a n c] 22)).heap[S.w.heap.size]? = some (.cells #[.slice a n c] 22) := World.alloc_heap_new _ _
      simp only [World.cell?, this]; rfl
    have at1 : ((S.w.alloc (.cells #[.slice a n c] 22)).alloc (.cells #[.int .i64 k] 3)).cell? ⟨S.w.heap.size + 1, 0, none⟩ = some (.int .i64 k) := by
      have := World.alloc_heap_new (S.w.alloc (.cells #[.slice a n c] 22)) (.cells #[.int .i64 k] 3)
      rw [World.size_alloc] at this
      simp only [World.cell?, this]; rfl
    generalize (S.w.alloc (.cells #[.slice a n c] 22)).alloc (.cells #[.int .i64 k] 3) = w' at *
    obtain ⟨q1, q2⟩ := Sim.grow hs (fun _ => False) w' (fun b => S.imm b ∨ (S.w.heap.size ≤ b ∧ b < w'.heap.size)) hg (fun _ h => .inl h) (fun b hb => hb)
    have p1' : RepP (fun b => S.imm b ∨ (S.w.heap.size ≤ b ∧ b < w'.heap.size)) w' (.sl n f) (.slice a n c) := p1.mono (fun _ h => .inl h) (fun b hb => hg.2.2.2.2 b (hs.immLt b hb))
    refine ⟨_, S.γ, _, rfl, by rw [← hh]; exact q1, by rw [← hh]; exact q2, fun _ _ => rfl, .fn _ [] _ [] [_, _] rfl rfl (fun i hi => by cases hi) fun i hi => ?_⟩
    match i, hi with
    | 0, _ =>
      refine .iptr [.sl n f] _ 0 (fun _ => .slice a n c) (Or.inr ⟨Nat.le_refl _, by omega⟩) (fun j hj => ?_) (fun j hj => rfl) (fun j hj => ?_)
      · obtain rfl : j = 0 := by simpa using hj
        exact at0
      · obtain rfl : j = 0 := by simpa using hj
        exact p1'
    | 1, _ =>
      refine .iptr [.int .i64 k] _ 0 (fun _ => .int .i64 k) (Or.inr ⟨by omega, by omega⟩) (fun j hj => ?_) (fun j hj => rfl) (fun j hj => ?_)
      · obtain rfl : j = 0 := by simpa using hj
        exact at1
      · obtain rfl : j = 0 := by simpa using hj
        exact .int _ _
  · cases h
attribute [push_cast] ckChunk

def ckCloneEnt : Ck
  | [.sl n f] => some ((∀ i, i < n → ∃ e : Ent, f i = cEnt.enc e) ∧ n ≤ 1000000000, .sl n f)
  | _ => none
theorem conCloneEnt : Con pg 52 ckCloneEnt := by
  have hct := ctN_ok pg
  intro args q r h hq
  unfold ckCloneEnt at h
  split at h
  · cases h
    rename_i n f
    by_cases hn : n = 0
    · subst hn
      refine pcall_nil1 fun a c => ?_
      refine w52 (fun d => decide (d < 9999)) [.frz 5] rfl hct rfl rfl ?_
      push_cast (config := { maxSteps := 10000000 })
      cases a
      · push_cast (config := { maxSteps := 10000000 })
      · push_cast (config := { maxSteps := 10000000 })
    · refine w52 (fun d => decide (d < 9999)) [.frz 5] rfl hct rfl rfl ?_
      push_cast (config := { maxSteps := 10000000 })
      obtain ⟨h1, h2⟩ := hq
      refine ⟨by omega, ⟨fun i hi => ?_, by omega, by omega⟩, fun i hi => ?_⟩
      · obtain ⟨e, he⟩ := h1 i hi; rw [he]; rfl
      · obtain ⟨e, he⟩ := h1 i hi; rw [he]; rfl
  · cases h
attribute [push_cast] ckCloneEnt

@[push_cast] theorem shAl_nil : shAl [] = [] := rfl
@[push_cast] theorem shAl_cons (k : Nat) (v : V) (r : List (Nat × V)) : shAl ((k, v) :: r) = (k, V.shift v) :: shAl r := rfl
@[push_cast] theorem shift_ptr (i o : Nat) : V.shift (.ptr i o) = .ptr (i + 9000) o := rfl
@[push_cast] theorem shift_fn0 (f : Fn) (n : Nat) (g : Nat → V) (k : Int) : V.shift (.fn f [] [.iptr [.sl n g], .iptr [.int .i64 k]]) = .fn f [] [.iptr [.sl n g], .iptr [.int .i64 k]] := rfl
@[push_cast] theorem shF_ent (l : List Ent) (m i : Nat) : shF (lsF cEnt l) m i = .agg [.str (l.getD (i + m) noEnt).loc, .int .i64 (l.getD (i + m) noEnt).day, .int .i64 (l.getD (i + m) noEnt).wt] := rfl
@[push_cast] theorem kill_outF (d : Nat) (l : List Ent) (k i : Nat) : V.kill d (outF l k i) = outF l k i := rfl
@[push_cast] theorem pure_outF (l : List Ent) (k i : Nat) : (outF l k i).isPure = true := rfl
def splE (m : SMp) (base : List UInt8) (most : Int) : Int := if chkM m ≠ 0 then chkM m else if m.ix = true then 3 else if most < 1 ∨ 1000 < most then 1 else chkM ⟨true, idxL m.en base most.toNat⟩
def splN (m : SMp) (base : List UInt8) (most : Int) : Nat := if splE m base most = 0 then cntP m.en.length most.toNat else 0
def ckSplitV : Ck
  | [.agg [.bool b, .sl n f], .str base, .int .i64 most] => some (isLs cEnt n f ∧ n ≤ 4611686018427387904 ∧ base.length ≤ 140737488355328,
      .tup [.sl (splN ⟨b, lsOf cEnt n f⟩ base most) (outF (lsOf cEnt n f) most.toNat), .agg [.bool (decide (splE ⟨b, lsOf cEnt n f⟩ base most = 0)), .sl (splN ⟨b, lsOf cEnt n f⟩ base most) (lsF cEnt (idxL (lsOf cEnt n f) base most.toNat))], .int .i64 (splE ⟨b, lsOf cEnt n f⟩ base most)])
  | _ => none
theorem conSplitV : Con pg 17 ckSplitV := by
  have hct := (ctA_ok conCM (ctA_ok conChunk (ctA_ok conCloneEnt (ctA_ok conItoa (ctN_ok _)))))
  intro args q r h hq
  unfold ckSplitV at h
  split at h
  · cases h
    rename_i b n f base most
    have hn : (lsOf cEnt n f).length ≤ 4611686018427387904 := by rw [lsOf_len]; exact hq.2.1
    have hb := hq.2.2
    refine pcall_args (args' := [.agg [.bool b, .sl (lsOf cEnt n f).length (lsF cEnt (lsOf cEnt n f))], .str base, .int .i64 most]) ⟨VLe.agg ⟨VLe.refl _, hq.1.vle, trivial⟩, VLe.refl _, VLe.refl _, trivial⟩ ?_
    generalize lsOf cEnt n f = l at hn ⊢
    refine w17 (fun _ => false) [.frz 8000, .frz 8001] rfl hct rfl rfl ?_
    push_cast (config := { maxSteps := 10000000 })
    refine ⟨hn, fun h => ?_, fun h1 => ⟨fun h => ?_, fun h2 => ⟨fun h => ?_, fun h3 => ⟨by omega, ?_⟩⟩⟩⟩
    · have e : splE ⟨b, l⟩ base most = chkM ⟨b, l⟩ := by unfold splE; rw [if_pos h]
      unfold splN; rw [e, if_neg h, decide_eq_false h]; exact ⟨rfl, ⟨rfl, rfl⟩, rfl⟩
    · have e : splE ⟨b, l⟩ base most = 3 := by unfold splE; rw [if_neg (fun x => x h1), if_pos h]
      unfold splN; rw [e]; exact ⟨rfl, ⟨rfl, rfl⟩, rfl⟩
    · have e : splE ⟨b, l⟩ base most = 1 := by unfold splE; rw [if_neg (fun x => x h1), if_neg (by rw [h2]; simp), if_pos h]
      unfold splN; rw [e]; exact ⟨rfl, ⟨rfl, rfl⟩, rfl⟩
    obtain ⟨k, rfl⟩ : ∃ k : Nat, most = k := ⟨most.toNat, by omega⟩
    have hl1 : l.length ≤ 1000 := by
      unfold chkM at h1
      split at h1
      · cases h1
      · rename_i z; exact Nat.le_of_not_lt z
    have eE : splE ⟨b, l⟩ base k = chkM ⟨true, idxL l base k⟩ := by unfold splE; rw [if_neg (fun x => x h1), if_neg (by rw [h2]; simp), if_neg (by omega)]; rfl
    simp only [Int.toNat_natCast] at *
    refine RngW.adj ⟨hct, fol⟩ (by kernel_rfl) [.nvc 11 0 8000 2 (outF l k), .nvc 12 1 8001 3 (lsF cEnt (idxL l base k))] [] [(4, .ptr 4 0), (7, .ptr 7 0), (9, .ptr 9 0), (11, .ptr 11 0), (12, .ptr 12 0), (39, .fn (.func 97) [] [.iptr [.sl l.length (lsF cEnt l)], .iptr [.int .i64 (k : Int)]])] (fun t : Nat => [(4, .cells [.str base]), (7, .cells [.bool false, .nilsl]), (9, .cells [.bool false, .nilsl]), (11, .cells [.vec 8000 t]), (12, .cells [.bool true, .vec 8001 t]), (8000, .vec 2 t (outF l k)), (8001, .vec 3 t (lsF cEnt (idxL l base k)))]) (fun t : Nat => [(9004, .cells [.str base]), (9007, .cells [.bool false, .nilsl]), (9009, .cells [.bool false, .nilsl]), (9011, .cells [.vec 17000 t]), (9012, .cells [.bool true, .vec 17001 t]), (17000, .vec 2 t (outF l k)), (17001, .vec 3 t (lsF cEnt (idxL l base k)))]) (fun t => rfl) (fun j t => t = j) 0 ⟨rfl, ?_⟩ (chunksV l.length (lsF cEnt l) k) rfl (chunkIter (fun i hi => rfl) (by omega) (by omega) (by omega)) (fun j t L hj hlt => ?_) (fun t ht => ?_)
    · push_cast (config := { maxSteps := 10000000 })
    · subst hj
      rw [chunksV_at _ _ _ _ hlt]
      rw [chunksV_len] at hlt
      have hlt2 : t * k < l.length := (cntP_iff (by omega)).1 hlt
      have hc := cntP_le (n := l.length) (k := k) (by omega)
      have hlt3 : t < cntP l.length k := hlt
      have hit : (Lib.itoa ((t : Int) + 1)).length ≤ 21 := Lib.itoa_length_le _ (by omega) (by omega)
      have hpl := partL_len l k t
      push_cast (config := { maxSteps := 10000000 })
      refine ⟨⟨fun i hi => ⟨l.getD (i + t * k) noEnt, rfl⟩, by omega⟩, ⟨by omega, by omega⟩, ⟨by omega, by omega⟩, by omega, by omega, ?_⟩
      refine LoopW.adj ⟨hct, fol⟩ (by kernel_rfl) [] (fun i : Nat => [(12, .ptr 9012 0), (14, .ptr 14 0), (54, .sl (min k (l.length - t * k)) (shF (lsF cEnt l) (t * k))), (55, .int .i64 ((min k (l.length - t * k) : Nat) : Int)), (56, .int .i64 i)]) (fun i => [(14, .cells [.str (base ++ Lib.itoa ((t : Int) + 1) ++ [46, 120, 109, 108]), .int .i64 (dayL ((partL l k t).take i)), .int .i64 (-1)]), (9004, .cells [.str base]), (9007, .cells [.bool false, .nilsl]), (9009, .cells [.bool false, .nilsl]), (9011, .cells [.vec 17000 (t + 1)]), (9012, .cells [.bool true, .vec 17001 t]), (17000, .vec 2 (t + 1) (outF l k)), (17001, .vec 3 t (lsF cEnt (idxL l base k)))]) (fun i => i ≤ min k (l.length - t * k)) (fun i => min k (l.length - t * k) - i) 0 ?_ fun i hi => ?_
      · push_cast (config := { maxSteps := 10000000 })
        refine ⟨Nat.zero_le _, rfl, fun i hi => ?_⟩
        unfold appF
        by_cases e : i < t
        · rw [decide_eq_true e]; rfl
        · obtain rfl : i = t := by omega
          rw [decide_eq_false e, Nat.sub_self]; rfl
      · push_cast (config := { maxSteps := 10000000 })
        refine ⟨fun h => ⟨h, ⟨by omega, by omega⟩, i + 1, by omega, by omega, by omega, ?_⟩, fun h => ⟨⟨by omega, by omega⟩, t + 1, rfl, rfl, rfl, rfl, rfl, fun m hm => ?_⟩⟩
        · rw [← hpl] at h
          rw [← partL_at l (by rw [← hpl]; exact h)]
          have et : (partL l k t).take (i + 1) = (partL l k t).take i ++ [(partL l k t).getD i noEnt] := by
            rw [List.getD_eq_getElem?_getD, List.getElem?_eq_getElem h, List.take_succ_eq_append_getElem h]; rfl
          rw [et, dayL_app]
        · obtain rfl : i = min k (l.length - t * k) := by omega
          rw [← hpl, List.take_length]
          show _ = cEnt.enc ((idxL l base k).getD m noEnt)
          unfold appF
          by_cases e : m < t
          · rw [decide_eq_true e]; rfl
          · obtain rfl : m = t := by omega
            rw [decide_eq_false e, Nat.sub_self, cond_false, idxL_at l base hlt3]; rfl
    · rw [chunksV_len] at ht
      subst ht
      have hc := cntP_le (n := l.length) (k := k) (by omega)
      have hil := idxL_len l base k
      unfold cntP at hc hil
      have hI := isLs_ls (c := cEnt) (idxL l base k)
      have hI2 := lsOf_ls (c := cEnt) (idxL l base k)
      rw [hil] at hI hI2
      push_cast (config := { maxSteps := 10000000 })
      rw [hI2, ← eE]
      refine ⟨⟨hI, by omega⟩, fun h => ?_, fun h => ?_⟩
      · unfold splN; rw [if_neg h, decide_eq_false h]; exact ⟨rfl, ⟨rfl, rfl⟩, rfl⟩
      · unfold splN; rw [if_pos h, decide_eq_true h]; exact ⟨rfl, ⟨rfl, rfl⟩, h.symm⟩
  · cases h
attribute [push_cast] ckSplitV
theorem pcall_resM {f : FuncId} {args : List V} {r r' : V} (hv : VLe r r') (h : PCall pg f args r) : PCall pg f args r' := by
  intro S vals hs hh hlen hr
  exact (h S vals hs hh hlen hr).mono fun e w' ⟨v, γ', imm', e1, e2, e3, e4, e5⟩ => ⟨v, γ', imm', e1, e2, e3, e4, hv _ _ _ _ e5⟩
theorem VLe.tup3 {a b a' b' c : V} (h : VLe a b) (h' : VLe a' b') : VLe (.tup [a, a', c]) (.tup [b, b', c]) := by
  intro γ imm w v hr
  obtain ⟨vs, rfl, h1, h2⟩ := inv_tup (S := ⟨γ, imm, fun _ => none, w⟩) hr
  exact .tup _ vs h1 fun i hi => by
    match i, hi with
    | 0, _ => exact h _ _ _ _ (h2 0 (by simp))
    | 1, _ => exact h' _ _ _ _ (h2 1 (by simp))
    | 2, _ => exact h2 2 (by simp)
def splO (m : SMp) (base : List UInt8) (most : Int) : List SMp := if splE m base most = 0 then partsL m.en most.toNat else []
def splI (m : SMp) (base : List UInt8) (most : Int) : SMp := if splE m base most = 0 then ⟨true, idxL m.en base most.toNat⟩ else noSMp
def ckSplM : Ck
  | [.agg [.bool b, .sl n f], .str base, .int .i64 most] => some (isLs cEnt n f ∧ n ≤ 4611686018427387904 ∧ base.length ≤ 140737488355328,
      .tup [.sl (splO ⟨b, lsOf cEnt n f⟩ base most).length (lsF cSMp (splO ⟨b, lsOf cEnt n f⟩ base most)), .agg [.bool (splI ⟨b, lsOf cEnt n f⟩ base most).ix, .sl (splI ⟨b, lsOf cEnt n f⟩ base most).en.length (lsF cEnt (splI ⟨b, lsOf cEnt n f⟩ base most).en)], .int .i64 (splE ⟨b, lsOf cEnt n f⟩ base most)])
  | _ => none
theorem outF_ple (l : List Ent) (k j : Nat) : pleL (outF l k j).flat (cSMp.enc ⟨false, partL l k j⟩).flat := by
  refine ⟨PLe.refl _, ?_, trivial⟩
  show PLe (.sl _ _) (.sl (partL l k j).length (lsF cEnt (partL l k j)))
  refine PLe.sl (partL_len l k j).symm fun i hi => ?_
  have e : lsF cEnt (partL l k j) i = shF (lsF cEnt l) (j * k) i := by
    show cEnt.enc ((partL l k j).getD i noEnt) = _
    rw [partL_at l hi]; rfl
  rw [e]; exact pleL_refl _
theorem splM_of {fid : FuncId} (hv : Con pg fid ckSplitV) : Con pg fid ckSplM := by
  intro args q r h hq
  unfold ckSplM at h
  split at h
  · cases h
    rename_i b n f base most
    refine pcall_resM (VLe.tup3 ?_ ?_) (hv _ _ _ rfl hq)
    · generalize lsOf cEnt n f = l
      unfold splO splN
      by_cases he : splE ⟨b, l⟩ base most = 0
      · rw [if_pos he, if_pos he]
        refine VLe.slP (partsL_len l _).symm fun i hi => ?_
        have e : lsF cSMp (partsL l most.toNat) i = cSMp.enc ⟨false, partL l most.toNat i⟩ := by
          show cSMp.enc ((partsL l most.toNat).getD i noSMp) = _
          rw [partsL_at l hi]
        rw [e]
        exact outF_ple l _ i
      · rw [if_neg he, if_neg he]
        exact VLe.slP rfl fun i hi => absurd hi (Nat.not_lt_zero i)
    · generalize lsOf cEnt n f = l
      unfold splI splN
      by_cases he : splE ⟨b, l⟩ base most = 0
      · rw [if_pos he, if_pos he, decide_eq_true he]
        rw [← idxL_len l base]
        exact VLe.refl _
      · rw [if_neg he, if_neg he, decide_eq_false he]
        refine VLe.agg ⟨VLe.refl _, VLe.slP rfl fun i hi => absurd hi (Nat.not_lt_zero i), trivial⟩
  · cases h
theorem conSplM : Con pg 17 ckSplM := splM_of conSplitV
attribute [push_cast] ckSplM

theorem conSplitV4 : Con pg 18 ckSplitV := by
  have hct := (ctA_ok conCM4 (ctA_ok conCloneEnt (ctA_ok conItoa (ctA_ok conWithin (ctN_ok _)))))
  intro args q r h hq
  unfold ckSplitV at h
  split at h
  · cases h
    rename_i b n f base most
    have hn : (lsOf cEnt n f).length ≤ 4611686018427387904 := by rw [lsOf_len]; exact hq.2.1
    have hb := hq.2.2
    refine pcall_args (args' := [.agg [.bool b, .sl (lsOf cEnt n f).length (lsF cEnt (lsOf cEnt n f))], .str base, .int .i64 most]) ⟨VLe.agg ⟨VLe.refl _, hq.1.vle, trivial⟩, VLe.refl _, VLe.refl _, trivial⟩ ?_
    generalize lsOf cEnt n f = l at hn ⊢
    refine w18 (fun _ => false) [.frz 8000, .frz 8001] rfl hct rfl rfl ?_
    push_cast (config := { maxSteps := 10000000 })
    refine ⟨hn, fun h => ?_, fun h1 => ⟨fun h => ?_, fun h2 => ⟨fun h => ?_, fun h3 => ?_⟩⟩⟩
    · have e : splE ⟨b, l⟩ base most = chkM ⟨b, l⟩ := by unfold splE; rw [if_pos h]
      unfold splN; rw [e, if_neg h, decide_eq_false h]; exact ⟨rfl, ⟨rfl, rfl⟩, rfl⟩
    · have e : splE ⟨b, l⟩ base most = 3 := by unfold splE; rw [if_neg (fun x => x h1), if_pos h]
      unfold splN; rw [e]; exact ⟨rfl, ⟨rfl, rfl⟩, rfl⟩
    · have e : splE ⟨b, l⟩ base most = 1 := by unfold splE; rw [if_neg (fun x => x h1), if_neg (by rw [h2]; simp), if_pos (by omega)]
      unfold splN; rw [e]; exact ⟨rfl, ⟨rfl, rfl⟩, rfl⟩
    obtain ⟨k, rfl⟩ : ∃ k : Nat, most = k := ⟨most.toNat, by omega⟩
    have hl1 : l.length ≤ 1000 := by
      unfold chkM at h1
      split at h1
      · cases h1
      · rename_i z; exact Nat.le_of_not_lt z
    have eE : splE ⟨b, l⟩ base k = chkM ⟨true, idxL l base k⟩ := by unfold splE; rw [if_neg (fun x => x h1), if_neg (by rw [h2]; simp), if_neg (by omega)]; rfl
    simp only [Int.toNat_natCast] at *
    have hk : 1 ≤ k := by omega
    have hc := cntP_le (n := l.length) hk
    have hil := idxL_len l base k
    refine LoopW.adj ⟨hct, fol⟩ (by kernel_rfl) [.nv 10 8000 2 (outF l k), .nvc 11 1 8001 3 (lsF cEnt (idxL l base k))] (fun t : Nat × Nat => [(1, .str base), (2, .int .i64 (k : Int)), (3, .ptr 3 0), (7, .ptr 7 0), (10, .vec 8000 t.1), (11, .ptr 11 0), (12, .int .i64 t.2)]) (fun t => [(3, .cells [.bool b, .sl l.length (lsF cEnt l)]), (7, .cells [.bool false, .nilsl]), (11, .cells [.bool true, .vec 8001 t.1]), (8000, .vec 2 t.1 (outF l k)), (8001, .vec 3 t.1 (lsF cEnt (idxL l base k)))]) (fun t => t.1 ≤ cntP l.length k ∧ t.2 = t.1 * k) (fun t => cntP l.length k - t.1) (0, 0) ?_ fun t ht => ?_
    · push_cast (config := { maxSteps := 10000000 })
      exact ⟨Nat.zero_le _, by omega⟩
    · obtain ⟨j, q⟩ := t
      obtain ⟨hj, hq⟩ : j ≤ cntP l.length k ∧ q = j * k := ht
      have hci := cntP_iff (n := l.length) (j := j) hk
      have hit : (Lib.itoa ((j : Int) + 1)).length ≤ 21 := Lib.itoa_length_le _ (by omega) (by omega)
      have hpl := partL_len l k j
      have hpa := fun i h => partL_at l (k := k) (j := j) (i := i) h
      have hou : outF l k j = .agg [.bool false, .sl (min k (l.length - q)) (shF (lsF cEnt l) q)] := by subst hq; rfl
      rw [← hq] at hci hpl hpa
      push_cast (config := { maxSteps := 10000000 })
      have hm : (min ((q : Int) + k) l.length).toNat - q = min k (l.length - q) := by omega
      rw [hm]
      refine ⟨fun h => ?_, fun h => ?_⟩
      · have hlt : j < cntP l.length k := hci.2 h
        refine ⟨⟨by omega, by omega⟩, ⟨⟨by omega, by omega⟩, by omega, by omega⟩, ⟨fun i hi => ⟨l.getD (i + q) noEnt, rfl⟩, by omega⟩, ⟨by omega, by omega⟩, ⟨by omega, by omega⟩, by omega, by omega, ?_⟩
        refine LoopW.adj ⟨hct, fol⟩ (by kernel_rfl) [] (fun i : Nat => [(1, .str base), (2, .int .i64 (k : Int)), (3, .ptr 3 0), (7, .ptr 7 0), (10, .vec 8000 j), (11, .ptr 11 0), (12, .int .i64 q), (13, .sl (min k (l.length - q)) (shF (lsF cEnt l) q)), (14, .ptr 14 0), (60, .sl (min k (l.length - q)) (shF (lsF cEnt l) q)), (61, .int .i64 ((min k (l.length - q) : Nat) : Int)), (62, .int .i64 i)]) (fun i => [(14, .cells [.str (base ++ Lib.itoa ((j : Int) + 1) ++ [46, 120, 109, 108]), .int .i64 (dayL ((partL l k j).take i)), .int .i64 (-1)]), (3, .cells [.bool b, .sl l.length (lsF cEnt l)]), (7, .cells [.bool false, .nilsl]), (11, .cells [.bool true, .vec 8001 j]), (8000, .vec 2 j (outF l k)), (8001, .vec 3 j (lsF cEnt (idxL l base k)))]) (fun i => i ≤ min k (l.length - q)) (fun i => min k (l.length - q) - i) 0 ?_ fun i hi => ?_
        · push_cast (config := { maxSteps := 10000000 })
          exact ⟨Nat.zero_le _, rfl⟩
        · push_cast (config := { maxSteps := 10000000 })
          refine ⟨fun h => ⟨h, ⟨by omega, by omega⟩, i + 1, by omega, by omega, by omega, ?_⟩, fun h => ⟨⟨by omega, by omega⟩, ⟨by omega, by omega⟩, ⟨by omega, by omega⟩, (j + 1, q + k), ⟨by show j + 1 ≤ _; omega, by show q + k = (j + 1) * k; rw [Nat.succ_mul, hq]⟩, by show cntP l.length k - (j + 1) < _; omega, ⟨rfl, by show (q : Int) + k = ((q + k : Nat) : Int); omega⟩, rfl, ⟨rfl, fun m hm => ?_⟩, rfl, fun m hm => ?_⟩⟩
          · rw [← hpl] at h
            rw [← hpa i (by rw [← hpl]; exact h)]
            have et : (partL l k j).take (i + 1) = (partL l k j).take i ++ [(partL l k j).getD i noEnt] := by
              rw [List.getD_eq_getElem?_getD, List.getElem?_eq_getElem h, List.take_succ_eq_append_getElem h]; rfl
            rw [et, dayL_app]
          · unfold appF
            by_cases e : m < j
            · rw [decide_eq_true e]; rfl
            · obtain rfl : m = j := by omega
              rw [decide_eq_false e, Nat.sub_self, cond_false, hou]; rfl
          · obtain rfl : i = min k (l.length - q) := by omega
            rw [← hpl, List.take_length]
            show _ = cEnt.enc ((idxL l base k).getD m noEnt)
            unfold appF
            by_cases e : m < j
            · rw [decide_eq_true e]; rfl
            · obtain rfl : m = j := by omega
              rw [decide_eq_false e, Nat.sub_self, cond_false, idxL_at l base hlt]; rfl
      · have hjc : j = cntP l.length k := Nat.le_antisymm hj (Nat.le_of_not_lt fun x => h (hci.1 x))
        have hI := isLs_ls (c := cEnt) (idxL l base k)
        have hI2 := lsOf_ls (c := cEnt) (idxL l base k)
        rw [hil, ← hjc] at hI hI2
        rw [hI2, ← eE]
        refine ⟨⟨hI, by omega⟩, fun h => ?_, fun h => ?_⟩
        · unfold splN; rw [if_neg h, decide_eq_false h]; exact ⟨rfl, ⟨rfl, rfl⟩, rfl⟩
        · unfold splN; rw [if_pos h, decide_eq_true h]; exact ⟨hjc, ⟨rfl, hjc⟩, h.symm⟩
  · cases h
theorem conSplM4 : Con pg 18 ckSplM := splM_of conSplitV4

theorem eqE_take {α : Type} {d : α} {a b : List α} (h : a.length = b.length) (hh : ∀ j, j < a.length → a.getD j d = b.getD j d) : a = b := by
  apply List.ext_getElem h
  intro i h1 h2
  have := hh i h1
  rwa [List.getD_eq_getElem?_getD, List.getD_eq_getElem?_getD, List.getElem?_eq_getElem h1, List.getElem?_eq_getElem h2] at this
theorem neE_at {α : Type} {d : α} {a b : List α} {i : Nat} (h : a.getD i d ≠ b.getD i d) : a ≠ b := fun e => h (by rw [e])
def ckEqEnt : Ck
  | [.sl n f, .sl m g] => some (isLs cEnt n f ∧ isLs cEnt m g ∧ n ≤ 4611686018427387904, .bool (decide (lsOf cEnt n f = lsOf cEnt m g)))
  | _ => none
theorem conEqEnt : Con pg 31 ckEqEnt := by
  have hct := ctN_ok pg
  intro args q r h hq
  unfold ckEqEnt at h
  split at h
  · cases h
    rename_i n f m g
    refine pcall_args (args' := [.sl (lsOf cEnt n f).length (lsF cEnt (lsOf cEnt n f)), .sl (lsOf cEnt m g).length (lsF cEnt (lsOf cEnt m g))]) ⟨isLs.vle hq.1, isLs.vle hq.2.1, trivial⟩ ?_
    have hn : (lsOf cEnt n f).length ≤ 4611686018427387904 := by rw [lsOf_len]; exact hq.2.2
    generalize lsOf cEnt n f = a at hn ⊢
    generalize lsOf cEnt m g = b
    refine w31 (fun _ => false) [] rfl hct rfl rfl ?_
    push_cast (config := { maxSteps := 10000000 })
    refine ⟨fun h => ?_, fun h => ?_⟩
    · exact (decide_eq_false fun e => h (by rw [e])).symm
    refine LoopW.adj ⟨hct, fol⟩ (by kernel_rfl) [] (fun i : Nat => [(0, .sl a.length (lsF cEnt a)), (1, .sl b.length (lsF cEnt b)), (12, .int .i64 a.length), (13, .int .i64 i)]) (fun _ => []) (fun i => i ≤ a.length ∧ ∀ j, j < i → a.getD j noEnt = b.getD j noEnt) (fun i => a.length - i) 0 ?_ fun i hi => ?_
    · push_cast (config := { maxSteps := 10000000 })
      exact Nat.zero_le _
    · push_cast (config := { maxSteps := 10000000 })
      obtain ⟨h1, h2⟩ := hi
      refine ⟨fun hlt => ⟨hlt, by omega, fun hne => ?_, fun he => ⟨by omega, i + 1, ⟨by omega, fun j hj => ?_⟩, by omega, by omega⟩⟩, fun hge => ?_⟩
      · exact (decide_eq_false (neE_at (d := noEnt) (i := i) fun e => hne (by rw [e]) (by rw [e]) (by rw [e]))).symm
      · by_cases e : j = i
        · subst e
          have e1 : ∀ x y : Ent, x.loc = y.loc → x.day = y.day → x.wt = y.wt → x = y := fun x y h h' h'' => by cases x; cases y; simp_all
          exact e1 _ _ he.1 he.2.1 he.2.2
        · exact h2 j (by omega)
      · exact (decide_eq_true (eqE_take (d := noEnt) (by omega) fun j hj => h2 j (by omega))).symm
  · cases h
attribute [push_cast] ckEqEnt

theorem mem_atE {α : Type} {l : List α} {d : α} {i : Nat} (h : i < l.length) : l.getD i d ∈ l := by
  rw [List.getD_eq_getElem?_getD, List.getElem?_eq_getElem h]; exact List.getElem_mem _
def ckSameM : Ck
  | [.agg [.bool b, .sl n f], .agg [.bool c, .sl m g]] => some (isLs cEnt n f ∧ isLs cEnt m g ∧ n ≤ 4611686018427387904, .bool (decide (b = c) && decide (lsOf cEnt n f = lsOf cEnt m g)))
  | _ => none
theorem conSameM : Con pg 8 ckSameM := by
  have hct := (ctA_ok conEqEnt (ctN_ok _))
  intro args q r h hq
  unfold ckSameM at h
  split at h
  · cases h
    rename_i b n f c m g
    refine w8 (fun _ => false) [] rfl hct rfl rfl ?_
    push_cast (config := { maxSteps := 10000000 })
    exact ⟨fun h => ⟨h, hq⟩, by cases b <;> cases c <;> rfl⟩
  · cases h
attribute [push_cast] ckSameM
def ckSameMs : Ck
  | [.sl n f, .sl m g] => some (isLs cSMp n f ∧ isLs cSMp m g ∧ (∀ x ∈ lsOf cSMp n f, x.en.length ≤ 1000000) ∧ n ≤ 4611686018427387904, .bool (decide (lsOf cSMp n f = lsOf cSMp m g)))
  | _ => none
theorem conSameMs : Con pg 19 ckSameMs := by
  have hct := (ctA_ok conSameM (ctN_ok _))
  intro args q r h hq
  unfold ckSameMs at h
  split at h
  · cases h
    rename_i n f m g
    obtain ⟨h1, h2, h3, hn⟩ := hq
    refine pcall_args (args' := [.sl (lsOf cSMp n f).length (lsF cSMp (lsOf cSMp n f)), .sl (lsOf cSMp m g).length (lsF cSMp (lsOf cSMp m g))]) ⟨isLs.vle h1, isLs.vle h2, trivial⟩ ?_
    rw [← lsOf_len (c := cSMp) n f] at hn
    generalize lsOf cSMp n f = a at hn h3 ⊢
    generalize lsOf cSMp m g = b
    refine w19 (fun _ => false) [] rfl hct rfl rfl ?_
    push_cast (config := { maxSteps := 10000000 })
    refine ⟨fun h => ?_, fun h => ?_⟩
    · exact (decide_eq_false fun e => h (by rw [e])).symm
    refine LoopW.adj ⟨hct, fol⟩ (by kernel_rfl) [] (fun i : Nat => [(0, .sl a.length (lsF cSMp a)), (1, .sl b.length (lsF cSMp b)), (12, .int .i64 a.length), (13, .int .i64 i)]) (fun _ => []) (fun i => i ≤ a.length ∧ ∀ j, j < i → a.getD j noSMp = b.getD j noSMp) (fun i => a.length - i) 0 ?_ fun i hi => ?_
    · push_cast (config := { maxSteps := 10000000 })
      exact Nat.zero_le _
    · push_cast (config := { maxSteps := 10000000 })
      obtain ⟨i1, i2⟩ := hi
      refine ⟨fun h => ⟨h, by omega, ?_, fun z => ?_, fun z => ⟨by omega, i + 1, ⟨by omega, fun j hj => ?_⟩, by omega, by omega⟩⟩, fun h => ?_⟩
      · have := h3 _ (mem_atE (d := noSMp) h); omega
      · exact (decide_eq_false (neE_at (d := noSMp) (i := i) fun e => z (by rw [e]) (by rw [e]))).symm
      · by_cases e : j = i
        · subst e
          have e1 : ∀ x y : SMp, x.ix = y.ix → x.en = y.en → x = y := fun x y h h' => by cases x; cases y; simp_all
          exact e1 _ _ z.1 z.2
        · exact i2 j (by omega)
      · exact (decide_eq_true (eqE_take (d := noSMp) (by omega) fun j hj => i2 j (by omega))).symm
  · cases h
attribute [push_cast] ckSameMs
def ckEqInt : Ck
  | [.sl n f, .sl m g] => some (isLs cInt n f ∧ isLs cInt m g ∧ n ≤ 4611686018427387904, .bool (decide (lsOf cInt n f = lsOf cInt m g)))
  | _ => none
theorem conEqInt : Con pg 16 ckEqInt := by
  have hct := ctN_ok pg
  intro args q r h hq
  unfold ckEqInt at h
  split at h
  · cases h
    rename_i n f m g
    refine pcall_args (args' := [.sl (lsOf cInt n f).length (lsF cInt (lsOf cInt n f)), .sl (lsOf cInt m g).length (lsF cInt (lsOf cInt m g))]) ⟨isLs.vle hq.1, isLs.vle hq.2.1, trivial⟩ ?_
    have hn : (lsOf cInt n f).length ≤ 4611686018427387904 := by rw [lsOf_len]; exact hq.2.2
    generalize lsOf cInt n f = a at hn ⊢
    generalize lsOf cInt m g = b
    refine w16 (fun _ => false) [] rfl hct rfl rfl ?_
    push_cast (config := { maxSteps := 10000000 })
    refine ⟨fun h => ?_, fun h => ?_⟩
    · exact (decide_eq_false fun e => h (by rw [e])).symm
    refine LoopW.adj ⟨hct, fol⟩ (by kernel_rfl) [] (fun i : Nat => [(0, .sl a.length (lsF cInt a)), (1, .sl b.length (lsF cInt b)), (12, .int .i64 a.length), (13, .int .i64 i)]) (fun _ => []) (fun i => i ≤ a.length ∧ ∀ j, j < i → a.getD j 0 = b.getD j 0) (fun i => a.length - i) 0 ?_ fun i hi => ?_
    · push_cast (config := { maxSteps := 10000000 })
      exact Nat.zero_le _
    · push_cast (config := { maxSteps := 10000000 })
      obtain ⟨i1, i2⟩ := hi
      refine ⟨fun h => ⟨h, by omega, fun z => ?_, fun z => ⟨by omega, i + 1, ⟨by omega, fun j hj => ?_⟩, by omega, by omega⟩⟩, fun h => ?_⟩
      · exact (decide_eq_false (neE_at (d := (0 : Int)) (i := i) z)).symm
      · by_cases e : j = i
        · subst e; exact z
        · exact i2 j (by omega)
      · exact (decide_eq_true (eqE_take (d := (0 : Int)) (by omega) fun j hj => i2 j (by omega))).symm
  · cases h
attribute [push_cast] ckEqInt

theorem eqS_take {a b : List (List UInt8)} (h : a.length = b.length) (hh : ∀ j, j < a.length → a.getD j [] = b.getD j []) : a = b := by
  apply List.ext_getElem h
  intro i h1 h2
  have := hh i h1
  rwa [List.getD_eq_getElem?_getD, List.getD_eq_getElem?_getD, List.getElem?_eq_getElem h1, List.getElem?_eq_getElem h2] at this
def ckEqStr : Ck
  | [.sl n f, .sl m g] => some (isLs cStr n f ∧ isLs cStr m g ∧ n ≤ 4611686018427387904, .bool (decide (lsOf cStr n f = lsOf cStr m g)))
  | _ => none
theorem conEqStr : Con pg 22 ckEqStr := by
  have hct := ctN_ok pg
  intro args q r h hq
  unfold ckEqStr at h
  split at h
  · cases h
    rename_i n f m g
    refine pcall_args (args' := [.sl (lsOf cStr n f).length (lsF cStr (lsOf cStr n f)), .sl (lsOf cStr m g).length (lsF cStr (lsOf cStr m g))]) ⟨isLs.vle hq.1, isLs.vle hq.2.1, trivial⟩ ?_
    have hn : (lsOf cStr n f).length ≤ 4611686018427387904 := by rw [lsOf_len]; exact hq.2.2
    generalize lsOf cStr n f = a at hn ⊢
    generalize lsOf cStr m g = b
    refine w22 (fun _ => false) [] rfl hct rfl rfl ?_
    push_cast (config := { maxSteps := 10000000 })
    refine ⟨fun h => ?_, fun h => ?_⟩
    · exact (decide_eq_false fun e => h (by rw [e])).symm
    refine LoopW.adj ⟨hct, fol⟩ (by kernel_rfl) [] (fun i : Nat => [(0, .sl a.length (lsF cStr a)), (1, .sl b.length (lsF cStr b)), (12, .int .i64 a.length), (13, .int .i64 i)]) (fun _ => []) (fun i => i ≤ a.length ∧ ∀ j, j < i → a.getD j [] = b.getD j []) (fun i => a.length - i) 0 ?_ fun i hi => ?_
    · push_cast (config := { maxSteps := 10000000 })
      exact Nat.zero_le _
    · push_cast (config := { maxSteps := 10000000 })
      obtain ⟨h1, h2⟩ := hi
      refine ⟨fun hlt => ⟨hlt, by omega, fun hne => ?_, fun he => ⟨by omega, i + 1, ⟨by omega, fun j hj => ?_⟩, by omega, by omega⟩⟩, fun hge => ?_⟩
      · exact (decide_eq_false fun e => hne (by rw [e])).symm
      · by_cases e : j = i
        · subst e; exact he
        · exact h2 j (by omega)
      · exact (decide_eq_true (eqS_take (by omega) fun j hj => h2 j (by omega))).symm
  · cases h
attribute [push_cast] ckEqStr

/- a list of a site as an argument -/
def entOk (e : Ent) : Prop := e.loc.length ≤ 140737488355328 ∧ -9223372036854775808 ≤ e.day ∧ e.day ≤ 9223372036854775807 ∧ -9223372036854775808 ≤ e.wt ∧ e.wt ≤ 9223372036854775807
abbrev sEnt : Sh := .tup [.str, .int .i64, .int .i64]
abbrev sSMp : Sh := .tup [.bool, .list sEnt]
theorem shEnt {m : Nat} {v : V} (h : Sh.has sEnt m v) : ∃ a, v = cEnt.enc a ∧ entOk a := by
  obtain ⟨l, ms, rfl, -, hl⟩ := h
  obtain ⟨m1, v1, ms, l, rfl, h1, hl⟩ := hasL_cons hl
  obtain ⟨m2, v2, ms, l, rfl, h2, hl⟩ := hasL_cons hl
  obtain ⟨m3, v3, ms, l, rfl, h3, hl⟩ := hasL_cons hl
  obtain rfl := hasL_nil hl
  obtain ⟨s, rfl, b1⟩ := shStr h1
  obtain ⟨d, rfl, c2⟩ := shInt h2
  obtain ⟨w, rfl, c3⟩ := shInt h3
  simp only [Lit.wf, Bool.and_eq_true, decide_eq_true_eq] at c2 c3
  exact ⟨⟨s, d, w⟩, rfl, b1, c2.1, c2.2, c3.1, c3.2⟩
theorem shSMp {m : Nat} {v : V} (h : Sh.has sSMp m v) : ∃ b n f, v = .agg [.bool b, .sl n f] ∧ isLs cEnt n f ∧ n ≤ 140737488355328 ∧ ∀ e ∈ lsOf cEnt n f, entOk e := by
  obtain ⟨l, ms, rfl, -, hl⟩ := h
  obtain ⟨m1, v1, ms, l, rfl, h1, hl⟩ := hasL_cons hl
  obtain ⟨m2, v2, ms, l, rfl, h2, hl⟩ := hasL_cons hl
  obtain rfl := hasL_nil hl
  obtain ⟨b, rfl, _⟩ := h1
  obtain ⟨n, f, rfl, i1, b1, k1⟩ := shList (c := cEnt) (fun m v h => shEnt h) h2
  exact ⟨b, n, f, rfl, i1, b1, k1⟩

theorem chk_len {m : SMp} (h : chkM m = 0) : m.en.length ≤ 1000 := by
  unfold chkM at h
  split at h
  · cases h
  · rename_i z; exact Nat.le_of_not_lt z
theorem spl_ok {m : SMp} {base : List UInt8} {most : Int} (h : splE m base most = 0) : m.en.length ≤ 1000 ∧ 1 ≤ most ∧ most ≤ 1000 := by
  unfold splE at h
  split at h
  · rename_i z; exact absurd h z
  · rename_i z
    split at h
    · cases h
    · split at h
      · cases h
      · exact ⟨chk_len (by simpa using z), by omega, by omega⟩
theorem splO_en {m : SMp} {base : List UInt8} {most : Int} : ∀ x ∈ splO m base most, x.en.length ≤ 1000000 := by
  intro x hx
  unfold splO at hx
  split at hx
  · rename_i h
    obtain ⟨h1, h2, h3⟩ := spl_ok h
    unfold partsL at hx
    obtain ⟨j, _, rfl⟩ := List.mem_map.1 hx
    show (partL m.en most.toNat j).length ≤ _
    rw [partL_len]; omega
  · cases hx
theorem splO_len {m : SMp} {base : List UInt8} {most : Int} : (splO m base most).length ≤ 1000 := by
  unfold splO
  split
  · rename_i h
    obtain ⟨h1, h2, h3⟩ := spl_ok h
    rw [partsL_len]
    have := cntP_le (n := m.en.length) (k := most.toNat) (by omega)
    omega
  · exact Nat.zero_le _
theorem splI_len {m : SMp} {base : List UInt8} {most : Int} : (splI m base most).en.length ≤ 1000 := by
  unfold splI
  split
  · rename_i h
    obtain ⟨h1, h2, h3⟩ := spl_ok h
    show (idxL m.en base most.toNat).length ≤ _
    rw [idxL_len]
    have := cntP_le (n := m.en.length) (k := most.toNat) (by omega)
    omega
  · exact Nat.zero_le _
theorem prpO_len {m : SMp} {a : Adr} : (prpO m a).length ≤ m.en.length := by
  unfold prpO
  split
  · exact prpL_len _ _ _
  · exact Nat.zero_le _
theorem newL_len {m : SMp} {s : Int} : (newL m s).length ≤ m.en.length := by
  unfold newL
  split
  · rw [List.length_map]
    have e : (srtE (m.en.filter (newB s))).length = (m.en.filter (newB s)).length := srtL_len ltE noEnt _
    rw [e]; exact List.length_filter_le _ _
  · exact Nat.zero_le _
def ckLawLM : Ck
  | [.agg [.bool b, .sl n f], .agg [.str sc, .str ho, .str po, .str pa, .str qu, .bool hq, .str fr, .bool hf], .str base, .int .i64 most, .int .i64 s] => some (isLs cEnt n f ∧ n ≤ 140737488355328 ∧ adrOk ⟨sc, ho, po, pa, qu, hq, fr, hf⟩ ∧ base.length ≤ 140737488355328, .bool true)
  | _ => none
theorem conLawLM : Con pg 5 ckLawLM := by
  have hct := (ctA_ok conProper (ctA_ok conProper4 (ctA_ok conEqInt (ctA_ok conSplM (ctA_ok conSplM4 (ctA_ok conSameMs (ctA_ok conSameM (ctA_ok conNewer (ctA_ok conNewer4 (ctA_ok conEqStr (ctA_ok conAwake4 (ctN_ok _))))))))))))
  intro args q r h hq
  unfold ckLawLM at h
  split at h
  · cases h
    rename_i b n f sc ho po pa qu hq1 fr hf base most s
    obtain ⟨h0, hn, ha, hb⟩ := hq
    rw [← lsOf_len (c := cEnt) n f] at hn
    refine pcall_args (args' := [.agg [.bool b, .sl (lsOf cEnt n f).length (lsF cEnt (lsOf cEnt n f))], .agg [.str sc, .str ho, .str po, .str pa, .str qu, .bool hq1, .str fr, .bool hf], .str base, .int .i64 most, .int .i64 s]) ⟨VLe.agg ⟨VLe.refl _, h0.vle, trivial⟩, VLe.refl _, VLe.refl _, VLe.refl _, VLe.refl _, trivial⟩ ?_
    generalize lsOf cEnt n f = l at hn ⊢
    refine w5 (fun _ => false) [] rfl hct rfl rfl ?_
    push_cast (config := { maxSteps := 10000000 })
    have z1 := prpO_len (m := ⟨b, l⟩) (a := ⟨sc, ho, po, pa, qu, hq1, fr, hf⟩)
    have z2 := splO_len (m := ⟨b, l⟩) (base := base) (most := most)
    have z3 := splI_len (m := ⟨b, l⟩) (base := base) (most := most)
    have z4 := newL_len (m := ⟨b, l⟩) (s := s)
    simp only at z1 z4
    exact ⟨⟨by omega, ha⟩, ⟨by omega, ha⟩, by omega, ⟨by omega, hb⟩, ⟨by omega, hb⟩, ⟨splO_en, by omega⟩, by omega, by omega, by omega, by omega⟩
  · cases h
attribute [push_cast] ckLawLM
theorem hasD5M {H : Type} {s1 s2 s3 s4 s5 : Sh} {ds : List (DataW H)} (h : hasD [s1, s2, s3, s4, s5] ds) : ∃ a b c d e, ds = [a, b, c, d, e] ∧ s1.has (bulkD a) (toV a) ∧ s2.has (bulkD b) (toV b) ∧ s3.has (bulkD c) (toV c) ∧ s4.has (bulkD d) (toV d) ∧ s5.has (bulkD e) (toV e) := by
  match ds, h with
  | [_, _, _, _, _], h => exact ⟨_, _, _, _, _, rfl, h.1, h.2.1, h.2.2.1, h.2.2.2.1, h.2.2.2.2.1⟩
theorem allLawLM {H : Type} (ds : List (DataW H)) (hh : hasD [sSMp, .tup [.str, .str, .str, .str, .str, .bool, .str, .bool], .str, .int .i64, .int .i64] ds) : PCall pg 5 (ds.map toV) (.bool true) := by
  obtain ⟨d1, d2, d3, d4, d5, rfl, x, y, z, u, v⟩ := hasD5M hh
  obtain ⟨b, n, f, e1, i1, b1, -⟩ := shSMp x
  obtain ⟨a, e2, o1, o2, o3, o4, o5, o6⟩ := shAdr y
  obtain ⟨s, e3, b3⟩ := shStr z
  obtain ⟨m, e4, _⟩ := shInt u
  obtain ⟨k, e5, _⟩ := shInt v
  simp only [List.map_cons, List.map_nil, e1, e2, e3, e4, e5]
  exact conLawLM _ _ _ rfl ⟨i1, b1, ⟨o1, o2, o3, o4, o5, o6⟩, b3⟩

end Go.Abs
