/- what functions of this program compute: contracts, each a function's own -/
import Derived.Test.YtcbkpkcmbijipaaGreatDoorAbsK3
import Derived.Test.YtcbkpkcmbijipaaGreatDoorAbsFacts
import Derived.Test.YtcbkpkcmbijipaaGreatDoorAbsF0
import Derived.Test.YtcbkpkcmbijipaaGreatDoorAbsShelf
import Derived.Lib.SlTrimSet
import Derived.Lib.Atoi
import Derived.Lib.Itoa
import Derived.Lib.ItoaNum
import Derived.Lib.AtoiErrMem
import Derived.Lib.Repeat
import Derived.Lib.ItoaLen
import Derived.Lib.Walk
import Derived.WalkKit
import Derived.OwnWalkIn
import Derived.TacticsInMore
import Derived.RegionIn
import Derived.LoopNIn
import Derived.LoopIn
import Derived.Shelf.Abstract
namespace Go.Abs
open Go Go.Proofs
set_option maxHeartbeats 4000000
set_option maxRecDepth 100000
set_option linter.unusedVariables false
set_option linter.unusedSimpArgs false
/- A LOOP THAT GATHERS ROWS IN A MAP: the rows lie hidden while a round runs, all but the one that the round may touch -/
abbrev Rws := MK → Option (Nat × (Nat → V))
def conM (rows : Rws) (u : MK → Value) : MK → Option V := fun k => (rows k).map fun _ => .con (u k)
def slM (rows : Rws) : MK → Option V := fun k => (rows k).map fun p => .sl p.1 p.2
/-- a hidden row -/
structure RowH (B : Nat → Prop) (imm : Nat → Prop) (own : Nat → Prop) (w : World) (sz n : Nat) (f : Nat → V) (u : Value) (b cap : Nat) (arr : Array Value) (t : TypeId) (lo hi : Nat) : Prop where
  val : u = .slice (some ⟨b, 0, none⟩) n cap
  le : n ≤ cap
  pos : 1 ≤ n
  szp : 0 < sz
  cells : w.heap[b]? = some (.cells arr t (lo, hi))
  size : arr.size = cap * sz
  fr : lo = hi ∨ (sz = 1 ∧ arr.size ≤ lo)
  flat : ∀ i, i < n → (f i).flat.length = sz
  rep : ∀ i j, i < n → j < sz → RepP imm w ((f i).flat.getD j .any) (arr.getD (i * sz + j) undef) ∧ one (arr.getD (i * sz + j) undef)
  ok : B b
  nown : ¬ own b
  nimm : ¬ imm b
def RowE (B : Nat → Prop) (S : Sv) (sz n : Nat) (f : Nat → V) (u : Value) : Prop := ∃ b cap arr t lo hi, RowH B S.imm S.own S.w sz n f u b cap arr t lo hi
theorem RowE.blk {B : Nat → Prop} {S : Sv} {sz n : Nat} {f : Nat → V} {u : Value} (h : RowE B S sz n f u) : ∃ b, blkOf u = some b ∧ B b ∧ ¬ S.own b ∧ ¬ S.imm b ∧ b < S.w.heap.size := by
  obtain ⟨b, cap, arr, t, lo, hi, h⟩ := h
  refine ⟨b, ?_, h.ok, h.nown, h.nimm, (Array.getElem?_eq_some_iff.1 h.cells).1⟩
  have := h.le; have := h.pos
  rw [h.val]; simp [blkOf]; omega
theorem RowE.ext {G : PG} {A : Nat → Prop} {B : Nat → Prop} {S S' : Sv} {sz n : Nat} {f : Nat → V} {u : Value} (h : RowE B S sz n f u) (hs : Sim G S) (k : Ext A S S') : RowE B S' sz n f u := by
  obtain ⟨b, cap, arr, t, lo, hi, h⟩ := h
  have hlt : b < S.w.heap.size := (Array.getElem?_eq_some_iff.1 h.cells).1
  exact ⟨b, cap, arr, t, lo, hi, h.val, h.le, h.pos, h.szp, (k.keep b hlt h.nown).trans h.cells, h.size, h.fr, h.flat, fun i j hi hj => ⟨(h.rep i j hi hj).1.mono k.imm (k.immKeep hs), (h.rep i j hi hj).2⟩, h.ok,
    fun ho => (k.own b ho).elim h.nown fun z => by omega, fun hi => (k.immNew b hi).elim h.nimm fun z => z.elim h.nown fun y => by omega⟩
structure Pool (B : Nat → Prop) (S : Sv) (sz : Nat) (rows : Rws) (u : MK → Value) : Prop where
  row : ∀ k n f, rows k = some (n, f) → RowE B S sz n f (u k)
  apart : ∀ k k' p p', rows k = some p → rows k' = some p' → blkOf (u k) = blkOf (u k') → k = k'
theorem flatPure {x : V} {sz j : Nat} (hx : x.isPure = true) (hl : x.flat.length = sz) (hj : j < sz) : (x.flat.getD j .any).isPure = true := flat_pure hx hl hj
/-- the row that the round may touch, as an own row -/
def hotO (o : Option (Nat × (Nat → V))) : V := match o with
  | some p => .vec 7000 p.1
  | none => .nilsl
def hotL (sz : Nat) (o : Option (Nat × (Nat → V))) : HL := match o with
  | some p => [(7000, .vec sz p.1 p.2)]
  | none => []
def hotOk (sz m : Nat) (hl : HL) (r : Option (Nat × (Nat → V))) (o : V) (hot : HL) : Prop := match r with
  | none => o = .nilsl ∧ hot = []
  | some p => ∃ j, o = .vec j p.1 ∧ hot = [(j, .vec sz p.1 p.2)] ∧ j ≠ m ∧ hOf hl j = none ∧ 1 ≤ p.1 ∧ ∀ i, i < p.1 → (p.2 i).isPure = true
def poolK {T : Type} (d : MD) (sz m : Nat) (l : T → List (Nat × V)) (hl : T → HL) (I : T → Prop) (μ : T → Nat) (rows : T → Rws) (u : MK → Value) (t : T) (k : MK) (K : Exit → St → Prop) (e : Exit) (s' : St) : Prop := match e with
  | .normal => ∃ t' o hot, I t' ∧ μ t' < μ t ∧ levE s' (l t') ∧ levH s' ((m, .mh d (conM (rows t) u) k o) :: (hot ++ hl t')) ∧ hotOk sz m (hl t') (rows t' k) o hot ∧ ∀ k', k' ≠ k → rows t' k' = rows t k'
  | e => ∃ rows' o hot l' hl', levE s' l' ∧ levH s' ((m, .mh d (conM (rows t) u) k o) :: (hot ++ hl')) ∧ hotOk sz m hl' (rows' k) o hot ∧ (∀ k', k' ≠ k → rows' k' = rows t k') ∧ hOf hl' m = none ∧ K e ⟨al l', hOf ((m, .mp d (slM rows')) :: hl')⟩
/-- what is said between the rounds -/
def PoolR (G : PG) (n : Nat) (S0 : Sv) (d : MD) (sz m : Nat) (l : List (Nat × V)) (hl : HL) (rows : Rws) (a : Act) (w : World) : Prop :=
  ∃ u γ imm, Sim G ⟨γ, imm, hOf ((m, .mp d (conM rows u)) :: hl), w⟩ ∧ Ext (· < 9000) S0 ⟨γ, imm, hOf ((m, .mp d (conM rows u)) :: hl), w⟩ ∧ RepE ⟨γ, imm, hOf ((m, .mp d (conM rows u)) :: hl), w⟩ (al l) a.tmps ∧ a.defers = [] ∧ a.tmps.size = n ∧ n ≤ 8999 ∧
    Pool (fun b => S0.own b ∨ S0.w.heap.size ≤ b) ⟨γ, imm, hOf ((m, .mp d (conM rows u)) :: hl), w⟩ sz rows u
section
variable {G : PG}
theorem repP_con {imm : Nat → Prop} {w : World} {v u : Value} (h : RepP imm w (.con v) u) : u = v := by cases h; rfl
/-- a hidden row comes into sight -/
theorem Sim.adopt {S : Sv} (hs : Sim G S) (id : Nat) (val : Value) (k : Blk) (hno : S.h id = none) (hmen : ∀ j b, S.h j = some b → ¬ b.men id) (hb : ∀ b, blkOf val = some b → ¬ S.own b ∧ ¬ S.imm b) (hk : BlkOk (Abs.upd S.γ id val) S.imm S.w id k) :
    Sim G ⟨Abs.upd S.γ id val, S.imm, Abs.upd S.h id (some k), S.w⟩ := by
  refine ⟨fun j b hj => ?_, fun i j b hi hj h1 h2 => ?_, hs.immLt, fun b ⟨i, hi, h1⟩ him => ?_, hs.tab.of (fun _ h => h) fun _ _ => rfl⟩
  · by_cases e : j = id
    · subst e; simp at hj; subst hj; exact hk
    · simp only [upd_ne _ _ e] at hj
      refine (hs.blk j b hj).mono (fun _ h => h) (fun _ _ => rfl) (fun _ _ => rfl) (upd_ne _ _ e) fun i hi => ?_
      by_cases e' : i = id
      · subst e'; exact absurd hi (hmen j b hj)
      · simp only [upd_ne _ _ e']; exact .refl _
  · by_cases e1 : i = id <;> by_cases e2 : j = id
    · rw [e1, e2]
    · subst e1
      simp only [upd_same] at h1
      simp only [upd_ne _ _ e2] at h2 hj
      exact absurd ⟨j, hj, h2⟩ (hb b h1).1
    · subst e2
      simp only [upd_same] at h2
      simp only [upd_ne _ _ e1] at h1 hi
      exact absurd ⟨i, hi, h1⟩ (hb b h2).1
    · simp only [upd_ne _ _ e1] at h1 hi
      simp only [upd_ne _ _ e2] at h2 hj
      exact hs.inj i j b hi hj h1 h2
  · by_cases e : i = id
    · subst e
      simp only [upd_same] at h1
      exact (hb b h1).2 him
    · simp only [upd_ne _ _ e] at h1 hi
      exact hs.disj b ⟨i, hi, h1⟩ him
theorem RepE.noMen {γ γ' : Gh} {imm : Nat → Prop} {w : World} {h h' : Heap} {l : List (Nat × V)} {tm : Array Value} (hr : RepE ⟨γ, imm, h, w⟩ (al l) tm) (hg : ∀ id, id ≠ 7000 → γ' id = γ id) (hm : ∀ t, V.men 7000 (al l t) = false) : RepE ⟨γ', imm, h', w⟩ (al l) tm := fun t =>
  RepV.mono (fun _ h => h) (fun _ _ => rfl) (hr t) fun id hid => by
    by_cases e : id = 7000
    · subst e; rw [hm t] at hid; cases hid
    · show Evo (γ id) (γ' id)
      rw [hg id e]; exact .refl _
theorem RowE.asVec {B : Nat → Prop} {S : Sv} {sz n : Nat} {f : Nat → V} {u : Value} (h : RowE B S sz n f u) {γ : Gh} {id : Nat} (hg : γ id = u) : BlkOk γ S.imm S.w id (.vec sz n f) := by
  obtain ⟨b, cap, arr, t, lo, hi, h⟩ := h
  exact ⟨h.szp, h.flat, .inr ⟨b, cap, arr, t, lo, hi, hg.trans h.val, h.le, by have := h.le; have := h.pos; omega, h.cells, h.size, h.fr, fun i j hi hj => ⟨.pure (h.rep i j hi hj).1, (h.rep i j hi hj).2⟩⟩⟩
theorem RowE.ofVec {B : Nat → Prop} {S : Sv} (S' : Sv) {sz n : Nat} {f : Nat → V} {id : Nat} (h : BlkOk S.γ S.imm S.w id (.vec sz n f)) (hn : 1 ≤ n) (hp : ∀ i, i < n → (f i).isPure = true) (hi : S'.imm = S.imm) (hw : S'.w = S.w) (hb : ∀ b, blkOf (S.γ id) = some b → B b ∧ ¬ S'.own b ∧ ¬ S'.imm b) : RowE B S' sz n f (S.γ id) := by
  obtain ⟨h1, h2, ⟨h3, _⟩ | ⟨b, cap, arr, t, lo, hi', h3, h4, hc, h5, h6, h7, h8⟩⟩ := h
  · omega
  · obtain ⟨q1, q2, q3⟩ := hb b (by rw [h3]; simp [blkOf]; omega)
    refine ⟨b, cap, arr, t, lo, hi', h3, h4, hn, h1, by rw [hw]; exact h5, h6, h7, h2, fun i j hi' hj => ⟨?_, (h8 i j hi' hj).2⟩, q1, q2, q3⟩
    rw [hi, hw]
    exact isPure_rep (S := S) (h8 i j hi' hj).1 (flat_pure (hp i hi') (h2 i hi') hj)
theorem vec_self {γ : Gh} {imm : Nat → Prop} {w : World} {id sz n : Nat} {f : Nat → V} {v : Value} (h : RepV γ imm w (.vec id n) v) (hb : BlkOk γ imm w id (.vec sz n f)) : v = γ id := by
  obtain ⟨a, m, c, g1, g2, g3⟩ := inv_vec (S := ⟨γ, imm, fun _ => none, w⟩) h
  have g1 : γ id = .slice a m c := g1
  obtain ⟨_, _, ⟨h3, a', h4⟩ | ⟨b, cap, arr, t, lo, hi', h3, _⟩⟩ := hb
  · rw [h4] at g1; cases g1; exact g3 h3
  · rw [h3] at g1; cases g1; exact g3 rfl
/-- the rows come to rest -/
theorem PoolR.frozen {n : Nat} {S0 : Sv} {d : MD} {sz m : Nat} {l : List (Nat × V)} {hl : HL} {rows : Rws} {a : Act} {w : World} (h : PoolR G n S0 d sz m l hl rows a w) (hm : hOf hl m = none) : Rel G n false S0 ⟨al l, hOf ((m, .mp d (slM rows)) :: hl)⟩ a w := by
  obtain ⟨u, γ, imm, hs, hx, he, hd, ht, hn, hp⟩ := h
  let imm' : Nat → Prop := fun b => imm b ∨ ∃ k p, rows k = some p ∧ blkOf (u k) = some b
  have him : ∀ b, imm b → imm' b := fun b h => .inl h
  have pb : ∀ k p b, rows k = some p → blkOf (u k) = some b → (S0.own b ∨ S0.w.heap.size ≤ b) ∧ ¬ Sv.own ⟨γ, imm, hOf ((m, .mp d (conM rows u)) :: hl), w⟩ b ∧ ¬ imm b ∧ b < w.heap.size := fun k p b hk hb => by
    obtain ⟨b', h1, h2, h3, h4, h5⟩ := (hp.row k p.1 p.2 hk).blk
    rw [hb] at h1; cases h1
    exact ⟨h2, h3, h4, h5⟩
  have hmb : BlkOk γ imm w m (.mp d (conM rows u)) := hs.blk m _ (by simp [hOf])
  have same : ∀ id, (hOf ((m, .mp d (slM rows)) :: hl) id).isSome = (hOf ((m, .mp d (conM rows u)) :: hl) id).isSome := fun id => by
    simp only [hOf]
    by_cases e : id = m
    · subst e; simp
    · rw [upd_ne _ _ e, upd_ne _ _ e]
  have s1 : Sim G ⟨γ, imm', hOf ((m, .mp d (slM rows)) :: hl), w⟩ := by
    refine ⟨fun id b hb => ?_, fun i j b hi hj => hs.inj i j b ((same i).symm.trans hi) ((same j).symm.trans hj), fun b hb => ?_, fun b ⟨i, hi, hb⟩ hi' => ?_, hs.tab.of him fun _ _ => rfl⟩
    · by_cases e : id = m
      · subst e
        simp only [hOf, upd_same, Option.some.injEq] at hb
        subst hb
        obtain ⟨bb, es, clock, g1, g2, g3⟩ := hmb
        refine ⟨bb, es, clock, g1, g2, g3.keys, g3.apart, fun k hk e he hek => ?_, fun k hk v hv => ?_⟩
        · obtain ⟨v, e1, e2⟩ := g3.at' k hk e he hek
          unfold conM at e1
          cases hr : rows k with
          | none => rw [hr] at e1; cases e1
          | some p =>
            rw [hr] at e1
            simp only [Option.map_some, Option.some.injEq] at e1
            subst e1
            have eu : e.val = u k := repP_con e2
            refine ⟨.sl p.1 p.2, by unfold slM; rw [hr]; rfl, ?_⟩
            rw [eu]
            obtain ⟨b, cap, arr, t, lo, hi, q⟩ := hp.row k p.1 p.2 hr
            rw [q.val]
            have hub : blkOf (u k) = some b := by
              have := q.le; have := q.pos
              rw [q.val]; simp [blkOf]; omega
            refine .sl p.1 p.2 b 0 cap sz (fun i j => arr.getD (i * sz + j) undef) (.inr ⟨k, p, hr, hub⟩) q.le q.szp q.flat (fun i j hi hj => ?_) (fun i j hi hj => (q.rep i j hi hj).2) fun i j hi hj => (q.rep i j hi hj).1.mono him fun _ _ => rfl
            rw [Nat.zero_add, cell_of_heap q.cells]
            have h1 := mul_lt hi hj
            have h2 : p.1 * sz ≤ cap * sz := Nat.mul_le_mul_right _ q.le
            have h3 := q.size
            have : i * sz + j < arr.size := by omega
            simp [Array.getD, this]
        · unfold slM at hv
          cases hr : rows k with
          | none => rw [hr] at hv; cases hv
          | some p => exact g3.no k hk (.con (u k)) (by unfold conM; rw [hr]; rfl)
      · simp only [hOf, upd_ne _ _ e] at hb
        exact (hs.blk id b (by simp only [hOf, upd_ne _ _ e]; exact hb)).mono him (fun _ _ => rfl) (fun _ _ => rfl) rfl fun _ _ => .refl _
    · rcases hb with hb | ⟨k, p, h1, h2⟩
      · exact hs.immLt b hb
      · exact (pb k p b h1 h2).2.2.2
    · have ho : Sv.own ⟨γ, imm, hOf ((m, .mp d (conM rows u)) :: hl), w⟩ b := ⟨i, (same i).symm.trans hi, hb⟩
      rcases hi' with h | ⟨k, p, h1, h2⟩
      · exact hs.disj b ho h
      · exact (pb k p b h1 h2).2.1 ho
  refine ⟨γ, imm', s1, ⟨hx.os, hx.tape, hx.output, hx.size, hx.keep, fun b h => .inl (hx.imm b h), fun b hb => ?_, fun b ⟨i, hi, hb⟩ => hx.own b ⟨i, (same i).symm.trans hi, hb⟩, hx.evo⟩, fun t => RepV.mono him (fun _ _ => rfl) (he t) fun _ _ => .refl _, hd, ht, hn⟩
  rcases hb with h | ⟨k, p, h1, h2⟩
  · exact hx.immNew b h
  · rcases (pb k p b h1 h2).1 with h | h
    · exact .inr (.inl h)
    · exact .inr (.inr h)

theorem RowE.own {B : Nat → Prop} {S S' : Sv} {sz n : Nat} {f : Nat → V} {u : Value} (h : RowE B S sz n f u) (hi : S'.imm = S.imm) (hw : S'.w = S.w) (ho : ∀ b, blkOf u = some b → ¬ S'.own b) : RowE B S' sz n f u := by
  obtain ⟨b0, k1, _⟩ := h.blk
  obtain ⟨b, cap, arr, t, lo, hi', h⟩ := h
  have hb : blkOf u = some b := by
    have := h.le; have := h.pos
    rw [h.val]; simp [blkOf]; omega
  exact ⟨b, cap, arr, t, lo, hi', h.val, h.le, h.pos, h.szp, by rw [hw]; exact h.cells, h.size, h.fr, h.flat, fun i j p q => by rw [hi, hw]; exact h.rep i j p q, h.ok, ho b hb, by rw [hi]; exact h.nimm⟩
/-- into sight: the state of a round -/
theorem PoolR.sight {sz m : Nat} {d : MD} {l : List (Nat × V)} {hl : HL} {rows : Rws} {u : MK → Value} {γ : Gh} {imm : Nat → Prop} {w : World} {B : Nat → Prop} (k : MK) (hk : d.has k) (hm7 : m ≠ 7000)
    (hH : ∀ id b, hOf hl id = some b → ¬ b.men 7000 ∧ id ≠ 7000 ∧ id ≠ m) (hs : Sim G ⟨γ, imm, hOf ((m, .mp d (conM rows u)) :: hl), w⟩) (hp : Pool B ⟨γ, imm, hOf ((m, .mp d (conM rows u)) :: hl), w⟩ sz rows u) :
    ∃ γ1, (∀ id, id ≠ 7000 → γ1 id = γ id) ∧ Sim G ⟨γ1, imm, hOf ((m, .mh d (conM rows u) k (hotO (rows k))) :: (hotL sz (rows k) ++ hl)), w⟩ ∧
      ∀ b, Sv.own ⟨γ1, imm, hOf ((m, .mh d (conM rows u) k (hotO (rows k))) :: (hotL sz (rows k) ++ hl)), w⟩ b → Sv.own ⟨γ, imm, hOf ((m, .mp d (conM rows u)) :: hl), w⟩ b ∨ ∃ p, rows k = some p ∧ blkOf (u k) = some b := by
  obtain ⟨bb, es, clock, g1, g2, g3⟩ := hs.blk m (.mp d (conM rows u)) (by simp [hOf])
  cases hr : rows k with
  | none =>
    refine ⟨γ, fun _ _ => rfl, ?_, ?_⟩
    · refine (hs.weaken (fun _ => False) (hOf ((m, .mh d (conM rows u) k .nilsl) :: hl)) fun id b hb => ?_).1
      by_cases e : id = m
      · subst e
        simp only [hOf, upd_same, Option.some.injEq] at hb
        subst hb
        refine ⟨by simp [hOf], bb, es, clock, g1, g2, hk, .inl rfl, g3.keys, g3.apart, fun l hl _ e he hek => g3.at' l hl e he hek, fun l hl _ v hv => g3.no l hl v hv, fun e he hek => ?_, fun ⟨_, _, h⟩ => by cases h⟩
        obtain ⟨v, e1, _⟩ := g3.at' k hk e he hek
        unfold conM at e1; rw [hr] at e1; cases e1
      · simp only [hOf, upd_ne _ _ e] at hb
        have h2 : hOf ((m, .mp d (conM rows u)) :: hl) id = some b := by simp only [hOf, upd_ne _ _ e]; exact hb
        exact ⟨by show (hOf ((m, .mp d (conM rows u)) :: hl) id).isSome = true; rw [h2]; rfl, hs.blk id b h2⟩
    · rintro b ⟨i, hi, hb⟩
      refine .inl ⟨i, ?_, hb⟩
      have hi : (hOf ((m, .mh d (conM rows u) k .nilsl) :: hl) i).isSome = true := hi
      show (hOf ((m, .mp d (conM rows u)) :: hl) i).isSome = true
      simp only [hOf] at hi ⊢
      by_cases e : i = m
      · subst e; simp
      · rw [upd_ne _ _ e] at hi ⊢; exact hi
  | some p =>
    obtain ⟨n, f⟩ := p
    have hrow := hp.row k n f hr
    obtain ⟨b0, q1, q2, q3, q4, q5⟩ := hrow.blk
    have hno : hOf ((m, .mp d (conM rows u)) :: hl) 7000 = none := by
      simp only [hOf, upd_ne _ _ (Ne.symm hm7)]
      cases h : hOf hl 7000 with
      | none => rfl
      | some b => exact absurd rfl (hH 7000 b h).2.1
    have hmen : ∀ j b, hOf ((m, .mp d (conM rows u)) :: hl) j = some b → ¬ b.men 7000 := fun j b hj => by
      by_cases e : j = m
      · subst e
        simp only [hOf, upd_same, Option.some.injEq] at hj
        subst hj; exact fun h => h
      · simp only [hOf, upd_ne _ _ e] at hj
        exact (hH j b hj).1
    have ha := Sim.adopt hs 7000 (u k) (.vec sz n f) hno hmen (fun b hb => by rw [q1] at hb; cases hb; exact ⟨q3, q4⟩) (hrow.asVec (by simp))
    refine ⟨Abs.upd γ 7000 (u k), fun id h => upd_ne _ _ h, ?_, ?_⟩
    · refine (ha.weaken (fun _ => False) (hOf ((m, .mh d (conM rows u) k (.vec 7000 n)) :: (7000, .vec sz n f) :: hl)) fun id b hb => ?_).1
      by_cases e : id = m
      · subst e
        simp only [hOf, upd_same, Option.some.injEq] at hb
        subst hb
        have hS : (Abs.upd (hOf ((id, .mp d (conM rows u)) :: hl)) 7000 (some (.vec sz n f)) id).isSome = true := by rw [upd_ne _ _ hm7]; simp [hOf]
        refine ⟨hS, bb, es, clock, by show Abs.upd γ 7000 (u k) id = _; rw [upd_ne _ _ hm7]; exact g1, g2, hk, .inr (.inr ⟨_, _, rfl⟩), g3.keys, g3.apart, fun l hl _ e he hek => g3.at' l hl e he hek, fun l hl _ v hv => g3.no l hl v hv, fun e he hek => ?_, fun _ => ?_⟩
        · obtain ⟨v, e1, e2⟩ := g3.at' k hk e he hek
          unfold conM at e1; rw [hr] at e1
          simp only [Option.map_some, Option.some.injEq] at e1
          subst e1
          rw [repP_con e2]
          obtain ⟨b, cap, arr, t, lo, hi, q⟩ := hrow
          refine ⟨.vec 7000 n (u k) _ _ _ ((upd_same γ 7000 (u k)).trans q.val) (Nat.le_refl _) (fun _ => (upd_same γ 7000 (u k)).symm) ?_, fun h => by cases h⟩
          rw [q.val]; rfl
        · exact g3.no k hk (.con (u k)) (by unfold conM; rw [hr]; rfl)
      · by_cases e7 : id = 7000
        · subst e7
          simp only [hOf, upd_ne _ _ e, upd_same, Option.some.injEq] at hb
          subst hb
          have h7 : Abs.upd (hOf ((m, .mp d (conM rows u)) :: hl)) 7000 (some (.vec sz n f)) 7000 = some (.vec sz n f) := upd_same _ _ _
          exact ⟨by show (Abs.upd (hOf ((m, .mp d (conM rows u)) :: hl)) 7000 (some (.vec sz n f)) 7000).isSome = true; rw [h7]; rfl, ha.blk 7000 _ h7⟩
        · simp only [hOf, upd_ne _ _ e, upd_ne _ _ e7] at hb
          have h2 : Abs.upd (hOf ((m, .mp d (conM rows u)) :: hl)) 7000 (some (.vec sz n f)) id = some b := by rw [upd_ne _ _ e7]; simp only [hOf, upd_ne _ _ e]; exact hb
          exact ⟨by show (Abs.upd (hOf ((m, .mp d (conM rows u)) :: hl)) 7000 (some (.vec sz n f)) id).isSome = true; rw [h2]; rfl, ha.blk id b h2⟩
    · rintro b ⟨i, hi, hb⟩
      have hi : (hOf ((m, .mh d (conM rows u) k (.vec 7000 n)) :: (7000, .vec sz n f) :: hl) i).isSome = true := hi
      have hb : blkOf (Abs.upd γ 7000 (u k) i) = some b := hb
      by_cases e7 : i = 7000
      · subst e7; rw [upd_same] at hb; exact .inr ⟨(n, f), rfl, hb⟩
      · rw [upd_ne _ _ e7] at hb
        refine .inl ⟨i, ?_, hb⟩
        show (hOf ((m, .mp d (conM rows u)) :: hl) i).isSome = true
        simp only [hOf] at hi ⊢
        by_cases e : i = m
        · subst e; simp
        · rw [upd_ne _ _ e, upd_ne _ _ e7] at hi; rw [upd_ne _ _ e]; exact hi

/-- out of sight again -/
theorem PoolR.out {n : Nat} {S0 : Sv} {sz m : Nat} {d : MD} {l' : List (Nat × V)} {hl hl' : HL} {rows rows' : Rws} {u : MK → Value} {γ γ1 : Gh} {imm : Nat → Prop} {w w' : World} {k : MK} {o : V} {hot : HL} {a' : Act}
    (hx : Ext (· < 9000) S0 ⟨γ, imm, hOf ((m, .mp d (conM rows u)) :: hl), w⟩)
    (hs : Sim G ⟨γ, imm, hOf ((m, .mp d (conM rows u)) :: hl), w⟩)
    (hp : Pool (fun b => S0.own b ∨ S0.w.heap.size ≤ b) ⟨γ, imm, hOf ((m, .mp d (conM rows u)) :: hl), w⟩ sz rows u)
    (hg : ∀ id, id ≠ 7000 → γ1 id = γ id) {H1 : Heap} (hs1 : Sim G ⟨γ1, imm, H1, w⟩)
    (ho1 : ∀ b, Sv.own ⟨γ1, imm, H1, w⟩ b → Sv.own ⟨γ, imm, hOf ((m, .mp d (conM rows u)) :: hl), w⟩ b ∨ ∃ p, rows k = some p ∧ blkOf (u k) = some b)
    (hr : Rel G n false ⟨γ1, imm, H1, w⟩ ⟨al l', hOf ((m, .mh d (conM rows u) k o) :: (hot ++ hl'))⟩ a' w')
    (ho : hotOk sz m hl' (rows' k) o hot) (hrow : ∀ k', k' ≠ k → rows' k' = rows k') (hm : hOf hl' m = none) : PoolR G n S0 d sz m l' hl' rows' a' w' := by
  obtain ⟨γ2, imm2, hs2, hx2, he2, hd2, ht2, hn2⟩ := hr
  have own1 : ∀ b, Sv.own ⟨γ1, imm, H1, w⟩ b → S0.own b ∨ S0.w.heap.size ≤ b := fun b hb => by
    rcases ho1 b hb with h | ⟨p, h1, h2⟩
    · exact hx.own b h
    · obtain ⟨b', q1, q2, _⟩ := (hp.row k p.1 p.2 h1).blk
      rw [h2] at q1; cases q1; exact q2
  have own2 : ∀ b, Sv.own ⟨γ2, imm2, hOf ((m, .mh d (conM rows u) k o) :: (hot ++ hl')), w'⟩ b → S0.own b ∨ S0.w.heap.size ≤ b := fun b hb => by
    rcases hx2.own b hb with h | h
    · exact own1 b h
    · exact .inr (Nat.le_trans hx.size h)
  -- the other rows are as they were
  have oth : ∀ k' n f, k' ≠ k → rows k' = some (n, f) → RowE (fun b => S0.own b ∨ S0.w.heap.size ≤ b) ⟨γ2, imm2, hOf ((m, .mh d (conM rows u) k o) :: (hot ++ hl')), w'⟩ sz n f (u k') := fun k' n f hne hk' => by
    have h1 := hp.row k' n f hk'
    obtain ⟨b', q1, q2, q3, q4, q5⟩ := h1.blk
    refine RowE.ext (h1.own (S' := ⟨γ1, imm, H1, w⟩) rfl rfl fun b hb hb1 => ?_) hs1 hx2
    rw [q1] at hb; cases hb
    rcases ho1 b' hb1 with h | ⟨p, r1, r2⟩
    · exact q3 h
    · exact hne (hp.apart k' k _ _ hk' r1 (by rw [q1, r2]))
  have hmb := hs2.blk m (.mh d (conM rows u) k o) (by simp [hOf])
  obtain ⟨bb, es, clock, g1, g2, g3⟩ := hmb
  -- the row that was in sight
  have hot' : ∃ v, (∀ p, rows' k = some p → RowE (fun b => S0.own b ∨ S0.w.heap.size ≤ b) ⟨γ2, imm2, hOf ((m, .mp d (conM rows' fun k' => if k' = k then v else u k')) :: hl'), w'⟩ sz p.1 p.2 v ∧ (∃ b, blkOf v = some b ∧ Sv.own ⟨γ2, imm2, hOf ((m, .mh d (conM rows u) k o) :: (hot ++ hl')), w'⟩ b) ∧ (∀ e ∈ es.toList, e.key = k.val → e.val = v) ∧ ∃ i n, o = .vec i n) ∧ (rows' k = none → o = .nilsl ∧ hot = []) := by
    cases hk : rows' k with
    | none => rw [hk] at ho; exact ⟨undef, fun p h => (by cases h), fun _ => ho⟩
    | some p =>
      rw [hk] at ho
      obtain ⟨j, rfl, rfl, hjm, hjn, hp1, hpp⟩ := ho
      have hjb : hOf ((m, .mh d (conM rows u) k (.vec j p.1)) :: ([(j, .vec sz p.1 p.2)] ++ hl')) j = some (.vec sz p.1 p.2) := by
        show hOf ((m, .mh d (conM rows u) k (.vec j p.1)) :: (j, .vec sz p.1 p.2) :: hl') j = _
        simp only [hOf, upd_ne _ _ hjm, upd_same]
      have hb : BlkOk γ2 imm2 w' j (.vec sz p.1 p.2) := hs2.blk j _ hjb
      have hjs : (hOf ((m, .mh d (conM rows u) k (.vec j p.1)) :: ([(j, .vec sz p.1 p.2)] ++ hl')) j).isSome = true := by rw [hjb]; rfl
      refine ⟨γ2 j, fun q hq => ?_, fun h => (by cases h)⟩
      cases hq
      have obj : ∀ b, blkOf (γ2 j) = some b → Sv.own ⟨γ2, imm2, hOf ((m, .mh d (conM rows u) k (.vec j p.1)) :: ([(j, .vec sz p.1 p.2)] ++ hl')), w'⟩ b := fun b hb => ⟨j, hjs, hb⟩
      refine ⟨RowE.ofVec (S := ⟨γ2, imm2, fun _ => none, w'⟩) _ hb hp1 hpp rfl rfl fun b hb1 => ⟨own2 b (obj b hb1), fun ⟨i, hi, hib⟩ => ?_, fun h => hs2.disj b (obj b hb1) h⟩, ?_, fun e he hek => ?_, ⟨_, _, rfl⟩⟩
      · have hi : (hOf ((m, .mp d (conM rows' _)) :: hl') i).isSome = true := hi
        have hij : i ≠ j := fun e => by
          subst e
          simp only [hOf, upd_ne _ _ hjm, hjn] at hi; cases hi
        have hi2 : (hOf ((m, .mh d (conM rows u) k (.vec j p.1)) :: ([(j, .vec sz p.1 p.2)] ++ hl')) i).isSome = true := by
          show (hOf ((m, .mh d (conM rows u) k (.vec j p.1)) :: (j, .vec sz p.1 p.2) :: hl') i).isSome = true
          simp only [hOf] at hi ⊢
          by_cases e : i = m
          · subst e; simp
          · rw [upd_ne _ _ e] at hi ⊢; rw [upd_ne _ _ hij]; exact hi
        exact hij (hs2.inj i j b hi2 hjs hib hb1)
      · obtain ⟨_, _, ⟨z, _⟩ | ⟨b, cap, arr, t, lo, hi', z1, z2, z3, _⟩⟩ := hb
        · omega
        · have e : blkOf (γ2 j) = some b := by rw [z1]; simp [blkOf]; omega
          exact ⟨b, e, obj b e⟩
      · exact vec_self (g3.hot e he hek).1 hb
  obtain ⟨v, hv1, hv2⟩ := hot'
  refine ⟨fun k' => if k' = k then v else u k', γ2, imm2, ?_, ?_, he2, ?_, ht2, hn2, ?_⟩
  · refine (hs2.weaken (fun _ => False) (hOf ((m, .mp d (conM rows' fun k' => if k' = k then v else u k')) :: hl')) fun id b hb => ?_).1
    by_cases e : id = m
    · subst e
      simp only [hOf, upd_same, Option.some.injEq] at hb
      subst hb
      refine ⟨by simp [hOf], bb, es, clock, g1, g2, g3.keys, g3.apart, fun k' hk' e he hek => ?_, fun k' hk' x hx' => ?_⟩
      · by_cases ek : k' = k
        · subst ek
          cases hrk : rows' k' with
          | none => exact absurd (hv2 hrk).1 (g3.hot e he hek).2
          | some p =>
            refine ⟨.con v, by unfold conM; rw [hrk]; simp, ?_⟩
            rw [(hv1 p hrk).2.2.1 e he hek]; exact .con v
        · obtain ⟨x, e1, e2⟩ := g3.at' k' hk' ek e he hek
          refine ⟨x, ?_, e2⟩
          unfold conM at e1 ⊢
          rw [hrow k' ek]; simp only [if_neg ek]; exact e1
      · by_cases ek : k' = k
        · subst ek
          cases hrk : rows' k' with
          | none => unfold conM at hx'; rw [hrk] at hx'; cases hx'
          | some p => exact g3.is' (hv1 p hrk).2.2.2
        · refine g3.no k' hk' ek x ?_
          unfold conM at hx' ⊢
          rw [hrow k' ek] at hx'; simp only [if_neg ek] at hx'; exact hx'
    · simp only [hOf, upd_ne _ _ e] at hb
      have h2 : hOf ((m, .mh d (conM rows u) k o) :: (hot ++ hl')) id = some b := by
        cases hrk : rows' k with
        | none =>
          rw [(hv2 hrk).2]
          show hOf ((m, _) :: hl') id = _
          simp only [hOf, upd_ne _ _ e]; exact hb
        | some p =>
          rw [hrk] at ho
          obtain ⟨j, rfl, rfl, hjm, hjn, _⟩ := ho
          show hOf ((m, _) :: (j, _) :: hl') id = _
          have hij : id ≠ j := fun e2 => by subst e2; rw [hjn] at hb; cases hb
          simp only [hOf, upd_ne _ _ e, upd_ne _ _ hij]; exact hb
      exact ⟨by show (hOf ((m, .mh d (conM rows u) k o) :: (hot ++ hl')) id).isSome = true; rw [h2]; rfl, hs2.blk id b h2⟩
  · have own3 : ∀ b, Sv.own ⟨γ2, imm2, hOf ((m, .mp d (conM rows' fun k' => if k' = k then v else u k')) :: hl'), w'⟩ b → Sv.own ⟨γ2, imm2, hOf ((m, .mh d (conM rows u) k o) :: (hot ++ hl')), w'⟩ b := fun b ⟨i, hi, hb⟩ => by
      refine ⟨i, ?_, hb⟩
      have hi : (hOf ((m, .mp d (conM rows' fun k' => if k' = k then v else u k')) :: hl') i).isSome = true := hi
      show (hOf ((m, .mh d (conM rows u) k o) :: (hot ++ hl')) i).isSome = true
      simp only [hOf] at hi ⊢
      by_cases e : i = m
      · subst e; simp
      · rw [upd_ne _ _ e] at hi ⊢
        cases hrk : rows' k with
        | none => rw [(hv2 hrk).2]; exact hi
        | some p =>
          rw [hrk] at ho
          obtain ⟨j, rfl, rfl, hjm, hjn, _⟩ := ho
          show (hOf ((j, _) :: hl') i).isSome = true
          simp only [hOf]
          by_cases e2 : i = j
          · subst e2; simp
          · rw [upd_ne _ _ e2]; exact hi
    refine ⟨hx2.os.trans hx.os, hx2.tape.trans hx.tape, hx2.output.trans hx.output, Nat.le_trans hx.size hx2.size, fun b hb hno => ?_, fun b hb => hx2.imm b (hx.imm b hb), fun b hb => ?_, fun b hb => own2 b (own3 b hb), fun id hA => ?_⟩
    · rw [← hx.keep b hb hno]
      exact hx2.keep b (Nat.lt_of_lt_of_le hb hx.size) fun h => (own1 b h).elim hno fun z => by omega
    · rcases hx2.immNew b hb with h | h | h
      · exact hx.immNew b h
      · exact .inr (own1 b h)
      · exact .inr (.inr (Nat.le_trans hx.size h))
    · have h1 := hx.evo id hA
      have h2 := hx2.evo id hA
      have e7 : id ≠ 7000 := fun e => hA (by omega)
      have h2 : Evo (γ1 id) (γ2 id) := h2
      rw [hg id e7] at h2
      exact h1.trans h2
  · exact hd2
  · have own3 : ∀ b, Sv.own ⟨γ2, imm2, hOf ((m, .mp d (conM rows' fun k' => if k' = k then v else u k')) :: hl'), w'⟩ b → Sv.own ⟨γ2, imm2, hOf ((m, .mh d (conM rows u) k o) :: (hot ++ hl')), w'⟩ b := fun b ⟨i, hi, hb⟩ => by
      refine ⟨i, ?_, hb⟩
      have hi : (hOf ((m, .mp d (conM rows' fun k' => if k' = k then v else u k')) :: hl') i).isSome = true := hi
      show (hOf ((m, .mh d (conM rows u) k o) :: (hot ++ hl')) i).isSome = true
      simp only [hOf] at hi ⊢
      by_cases e : i = m
      · subst e; simp
      · rw [upd_ne _ _ e] at hi ⊢
        cases hrk : rows' k with
        | none => rw [(hv2 hrk).2]; exact hi
        | some p =>
          rw [hrk] at ho
          obtain ⟨j, rfl, rfl, hjm, hjn, _⟩ := ho
          show (hOf ((j, _) :: hl') i).isSome = true
          simp only [hOf]
          by_cases e2 : i = j
          · subst e2; simp
          · rw [upd_ne _ _ e2]; exact hi
    refine ⟨fun k' n f hk' => ?_, fun k1 k2 p1 p2 h1 h2 he => ?_⟩
    · by_cases ek : k' = k
      · subst ek
        simp only [if_true]
        exact (hv1 (n, f) hk').1
      · simp only [if_neg ek]
        rw [hrow k' ek] at hk'
        have h1 := oth k' n f ek hk'
        obtain ⟨b', q1, q2, q3, _⟩ := h1.blk
        exact h1.own rfl rfl fun b hb hb1 => by rw [q1] at hb; cases hb; exact q3 (own3 b' hb1)
    · have apart : ∀ k' p' p, k' ≠ k → rows' k' = some p' → rows' k = some p → blkOf (u k') = blkOf v → False := fun k' p' p hne h1 h2 he => by
        rw [hrow k' hne] at h1
        obtain ⟨b', q1, q2, q3, _⟩ := (oth k' p'.1 p'.2 hne h1).blk
        obtain ⟨b, r1, r2⟩ := (hv1 p h2).2.1
        rw [q1, r1] at he; cases he
        exact q3 r2
      by_cases e1 : k1 = k <;> by_cases e2 : k2 = k
      · rw [e1, e2]
      · subst e1; simp only [if_true, if_neg e2] at he
        exact (apart k2 p2 p1 e2 h2 h1 he.symm).elim
      · subst e2; simp only [if_true, if_neg e1] at he
        exact (apart k1 p1 p2 e1 h1 h2 he).elim
      · simp only [if_neg e1, if_neg e2] at he
        rw [hrow k1 e1] at h1
        rw [hrow k2 e2] at h2
        exact hp.apart k1 k2 p1 p2 h1 h2 he
/-- THE LOOP -/
theorem LoopW.pool {c : Cfg} (hc : CfgOk c) (hdf : c.df = false) {b : Code} (hok : codeOk c.an b = true) {s : St} {K : Exit → St → Prop} {T : Type} (d : MD) (sz m : Nat) (l : T → List (Nat × V)) (hl : T → HL) (I : T → Prop) (μ : T → Nat) (rows : T → Rws) (key : T → MK) (t0 : T)
    (h0 : I t0 ∧ levE s (l t0) ∧ levH s ((m, .mp d fun _ => none) :: hl t0)) (hr0 : rows t0 = fun _ => none) (hm7 : m ≠ 7000) (hE : ∀ t x, V.men 7000 (al (l t) x) = false) (hH : ∀ t id b, hOf (hl t) id = some b → ¬ b.men 7000 ∧ id ≠ 7000 ∧ id ≠ m) (hkey : ∀ t, d.has (key t))
    (KB : T → (MK → Value) → Exit → St → Prop) (hKB : ∀ t u e s', I t → KB t u e s' → poolK d sz m l hl I μ rows u t (key t) K e s')
    (body : ∀ t, I t → ∀ u : MK → Value, exec c b ⟨al (l t), hOf ((m, .mh d (conM (rows t) u) (key t) (hotO (rows t (key t)))) :: (hotL sz (rows t (key t)) ++ hl t))⟩ (KB t u)) : LoopW c b s K := by
  intro S0 a w hr
  have hP0 : PoolR c.G c.n S0 d sz m (l t0) (hl t0) (rows t0) a w := by
    obtain ⟨γ, imm, hs, hx, he, hd, ht, hn⟩ := Le.lev h0.2 _ _ _ _ _ _ hr
    have e : conM (rows t0) (fun _ => undef) = fun _ => none := by rw [hr0]; rfl
    rw [hdf] at hd
    refine ⟨fun _ => undef, γ, imm, by rw [e]; exact hs, by rw [e]; exact hx, by rw [e]; exact he, hd, ht, hn, ⟨fun k n f h => (by rw [hr0] at h; cases h), fun k k' p p' h => (by rw [hr0] at h; cases h)⟩⟩
  refine wp_loop_rel (fun mm a w => ∃ t, μ t = mm ∧ I t ∧ PoolR c.G c.n S0 d sz m (l t) (hl t) (rows t) a w) (μ t0) ⟨t0, rfl, h0.1, hP0⟩ fun mm a w ⟨t, ht, hI, hP⟩ => ?_
  obtain ⟨u, γ, imm, hs, hx, he, hd, hts, hn, hp⟩ := hP
  obtain ⟨γ1, hg, hs1, ho1⟩ := PoolR.sight (l := l t) (key t) (hkey t) hm7 (hH t) hs hp
  have hr1 : Rel c.G c.n c.df ⟨γ1, imm, hOf ((m, .mh d (conM (rows t) u) (key t) (hotO (rows t (key t)))) :: (hotL sz (rows t (key t)) ++ hl t)), w⟩ ⟨al (l t), hOf ((m, .mh d (conM (rows t) u) (key t) (hotO (rows t (key t)))) :: (hotL sz (rows t (key t)) ++ hl t))⟩ a w := by
    refine ⟨γ1, imm, hs1, Ext.refl _ _, RepE.noMen he hg (hE t), ?_, hts, hn⟩
    rw [hdf]; exact hd
  refine wpIn_mono (exec_sound hc b hok _ _ a w _ hr1 (body t hI u)) fun e a' w' he' => ?_
  obtain ⟨s', hr', hk⟩ := he'
  replace hk := hKB t u e s' hI hk
  rw [hdf] at hr'
  have hHm : ∀ t, hOf (hl t) m = none := fun t => by
    cases h : hOf (hl t) m with
    | none => rfl
    | some b => exact absurd rfl (hH t m b h).2.2
  have fin : e ≠ .normal → (∃ rows' o hot l' hl', levE s' l' ∧ levH s' ((m, .mh d (conM (rows t) u) (key t) o) :: (hot ++ hl')) ∧ hotOk sz m hl' (rows' (key t)) o hot ∧ (∀ k', k' ≠ key t → rows' k' = rows t k') ∧ hOf hl' m = none ∧ K e ⟨al l', hOf ((m, .mp d (slM rows')) :: hl')⟩) → liftE c.G c.n c.df S0 K e a' w' := fun _ ⟨rows', o, hot, l', hl', k1, k2, k3, k4, k5, k6⟩ => by
    have := PoolR.out hx hs hp hg hs1 ho1 (Le.lev ⟨k1, k2⟩ _ _ _ _ _ _ hr') k3 k4 k5
    refine ⟨_, ?_, k6⟩
    rw [hdf]; exact this.frozen k5
  cases e with
  | normal =>
    obtain ⟨t', o, hot, h1, h2, k1, k2, k3, k4⟩ := hk
    exact ⟨μ t', ht ▸ h2, t', rfl, h1, PoolR.out hx hs hp hg hs1 ho1 (Le.lev ⟨k1, k2⟩ _ _ _ _ _ _ hr') k3 k4 (hHm t')⟩
  | _ => exact fin (fun h => by cases h) hk
/-- .. where the loop is left at one place alone -/
def poolX {T : Type} (d : MD) (sz m : Nat) (l : T → List (Nat × V)) (hl : T → HL) (I : T → Prop) (μ : T → Nat) (rows : T → Rws) (e0 : Nat) (lX : List (Nat × V)) (hlX : HL) (rX : Rws) (key : T → MK) (t : T) (u : MK → Value) (e : Exit) (s' : St) : Prop := match e with
  | .normal => ∃ t' o hot, I t' ∧ μ t' < μ t ∧ levE s' (l t') ∧ levH s' ((m, .mh d (conM (rows t) u) (key t) o) :: (hot ++ hl t')) ∧ hotOk sz m (hl t') (rows t' (key t)) o hot ∧ ∀ k', k' ≠ key t → rows t' k' = rows t k'
  | .exit j => j = e0 ∧ ∃ o hot, levE s' lX ∧ levH s' ((m, .mh d (conM (rows t) u) (key t) o) :: (hot ++ hlX)) ∧ hotOk sz m hlX (rX (key t)) o hot ∧ ∀ k', k' ≠ key t → rX k' = rows t k'
  | _ => False
theorem LoopW.poolX {c : Cfg} (hc : CfgOk c) (hdf : c.df = false) {b : Code} (hok : codeOk c.an b = true) {s : St} {K : Exit → St → Prop} {T : Type} (d : MD) (sz m : Nat) (l : T → List (Nat × V)) (hl : T → HL) (I : T → Prop) (μ : T → Nat) (rows : T → Rws) (key : T → MK) (t0 : T) (e0 : Nat) (lX : List (Nat × V)) (hlX : HL) (rX : Rws)
    (h0 : I t0 ∧ levE s (l t0) ∧ levH s ((m, .mp d fun _ => none) :: hl t0)) (hr0 : rows t0 = fun _ => none) (hm7 : m ≠ 7000) (hE : ∀ t x, V.men 7000 (al (l t) x) = false) (hH : ∀ t id b, hOf (hl t) id = some b → ¬ b.men 7000 ∧ id ≠ 7000 ∧ id ≠ m) (hkey : ∀ t, d.has (key t))
    (hX : hOf hlX m = none) (hexit : K (.exit e0) ⟨al lX, hOf ((m, .mp d (slM rX)) :: hlX)⟩)
    (body : ∀ t, I t → ∀ u : MK → Value, exec c b ⟨al (l t), hOf ((m, .mh d (conM (rows t) u) (key t) (hotO (rows t (key t)))) :: (hotL sz (rows t (key t)) ++ hl t))⟩ (Abs.poolX d sz m l hl I μ rows e0 lX hlX rX key t u)) : LoopW c b s K :=
  LoopW.pool hc hdf hok d sz m l hl I μ rows key t0 h0 hr0 hm7 hE hH hkey (Abs.poolX d sz m l hl I μ rows e0 lX hlX rX key) (fun t u e s' _ h => by
    cases e with
    | normal => exact h
    | exit j =>
      obtain ⟨rfl, o, hot, h1, h2, h3, h4⟩ := h
      exact ⟨rX, o, hot, lX, hlX, h1, h2, h3, h4, hX, hexit⟩
    | _ => exact h.elim) body
end

open Go.RowKit in
theorem bchunk_w (a : Option Addr) (n c : Nat) (k : Int) (w : World) (h : 1 ≤ k) :
    Calls Tryz.prog 35 #[.slice a n c, .int .i64 k] w fun e w' =>
      e = .returned (.func (.func 63) #[] #[.pointer (some ⟨w.heap.size, 0, none⟩), .pointer (some ⟨w.heap.size + 1, 0, none⟩)]) ∧
      w' = (w.alloc (.cells #[.slice a n c] 28)).alloc (.cells #[.int .i64 k] 3) := by
  go_enter Tryz.func35, Tryz.ntmps35
  go_wp2
  go_ret
  exact ⟨rfl, rfl⟩
def bchunkV (a : Option Addr) (n c k j : Nat) : Value := .slice (a.map (·.add (j * k))) (min k (n - j * k)) (min k (n - j * k))
set_option maxRecDepth 100000 in
open Go.RowKit in
theorem bchunk1_w (l B1 B2 o1 o2 n c k : Nat) (a : Option Addr) (hk : 1 ≤ k) (hn : n ≤ 1000000000) (hk2 : k ≤ 1000000000) (hc : n ≤ c) (J : Nat → World → Prop) (W : World)
    (hcell : ∀ j W, J j W → W.cell? ⟨B1, o1, none⟩ = some (.slice a n c) ∧ W.cell? ⟨B2, o2, none⟩ = some (.int .i64 (k : Int)))
    (hY : ∀ j W, J j W → j * k < n → YieldAt Fence.wide 0 Tryz.prog l #[bchunkV a n c k j] W fun e W' => e = .returned (.bool true) ∧ J (j + 1) W') (hJd : ∀ j W, J j W → J j W.drew) (h0 : J 0 W) :
    CallsIn Fence.wide 0 Tryz.prog 63 #[.func (.yield l) #[] #[], .pointer (some ⟨B1, o1, none⟩), .pointer (some ⟨B2, o2, none⟩)] W fun e W' => (∃ v, e = .returned v) ∧ ∃ m, n ≤ m * k ∧ (m = 0 ∨ (m - 1) * k < n) ∧ J m W' := by
  have t22 := Tryz.underlying28
  have mixed : Tryz.prog.follows .mixedOrders = true := fol
  refine callsIn_of_wp Tryz.func63 rfl trivial ?_ rfl
  simp only [Tryz.ntmps63, List.size_toArray, List.length_cons, List.length_nil, Nat.reduceAdd, Nat.reduceSub, Array.replicate_succ, Array.replicate_zero, List.push_toArray, List.append_toArray, List.nil_append, List.cons_append]
  gi_wp2
  gi_loopw [4] (fun i wr => ∃ j : Nat, i = .int .i64 ((j * k : Nat) : Int) ∧ J j wr ∧ (j = 0 ∨ (j - 1) * k < n))
    (fun i _ => n - (intOf i).toNat)
  case atStart => exact ⟨0, by simp, h0, .inl rfl⟩
  case round =>
    obtain ⟨j, rfl, hJ, hj⟩ := hrel
    obtain ⟨hc1, hc2⟩ := hcell j wr hJ
    generalize hq : j * k = q at *
    by_cases hlt : q < n
    · gi_wp2
      gi_region
      have hJd' := hJd j wr hJ
      obtain ⟨hd1, hd2⟩ := hcell j _ hJd'
      obtain ⟨fn, tmps, assign, body, hy, hR⟩ := hY j _ hJd' (by omega)
      unfold bchunkV at hy
      rw [hq] at hy
      rw [show min (k : Int) ((n - q : Nat) : Int) = ((min k (n - q) : Nat) : Int) by omega]
      obtain ⟨e1, e2, e3⟩ : 1 ≤ min k (n - q) ∧ min k (n - q) ≤ k ∧ min k (n - q) ≤ n - q := by omega
      generalize min k (n - q) = e at *
      generalize wr.drew = w2 at *
      gi_wp2
      refine ⟨rfl, hR.mono ?_⟩
      rintro e' W3 ⟨rfl, hJ3⟩
      obtain ⟨hc3, hc4⟩ := hcell _ _ hJ3
      gi_wp2
      go_roundw
      case rel => exact ⟨j + 1, by rw [Nat.succ_mul, hq]; simp, hJ3, .inr (by simpa [hq] using hlt)⟩
      case measure => simp [intOf]; omega
    · gi_wp2
      go_end0
      exact ⟨⟨_, rfl⟩, j, by omega, hj, hJ⟩

/-- the parts of a slice -/
def bchunksV (n : Nat) (f : Nat → V) (k : Nat) : List V := (List.range ((n + k - 1) / k)).map fun j => .sl (min k (n - j * k)) (shF f (j * k))
theorem bchunksV_len (n : Nat) (f : Nat → V) (k : Nat) : (bchunksV n f k).length = (n + k - 1) / k := by simp [bchunksV]
theorem bchunksV_at (n : Nat) (f : Nat → V) (k j : Nat) (h : j < (bchunksV n f k).length) : (bchunksV n f k).getD j .any = .sl (min k (n - j * k)) (shF f (j * k)) := by
  rw [bchunksV_len] at h
  simp [bchunksV, List.getD_eq_getElem?_getD, h]
theorem brepP_sub {imm : Nat → Prop} {w : World} {n c k j : Nat} {f : Nat → V} {a : Option Addr} (hf : ∀ i, i < n → (f i).flat.length = 1) (h : RepP imm w (.sl n f) (.slice a n c)) (hj : j * k < n) (hk : 1 ≤ k) :
    RepP imm w (.sl (min k (n - j * k)) (shF f (j * k))) (bchunkV a n c k j) := by
  generalize hq : j * k = q at *
  unfold bchunkV
  rw [hq]
  generalize he : min k (n - q) = e
  obtain ⟨e1, e2⟩ : 1 ≤ e ∧ q + e ≤ n := by omega
  cases h with
  | sl0 => omega
  | sl _ _ b off c sz u hb hnc hs hf' hc ho hp =>
    have hz : sz = 1 := by have := hf' 0 (by omega); rw [hf 0 (by omega)] at this; exact this.symm
    subst hz
    simp only [Option.map_some, addr_add]
    refine .sl e _ b (off + q) e 1 (fun i t => u (i + q) t) hb (Nat.le_refl _) hs (fun i hi => hf' _ (by omega)) (fun i t hi ht => ?_) (fun i t hi ht => ho _ _ (by omega) ht) (fun i t hi ht => hp _ _ (by omega) ht)
    rw [← hc (i + q) t (by omega) ht]
    congr 2
    omega
theorem bvals2 {vals : List Value} (h : vals.length = 2) : ∃ a b, vals = [a, b] := by
  match vals, h with
  | [a, b], _ => exact ⟨a, b, rfl⟩
theorem bchunkIter {n k : Nat} {f : Nat → V} (hf : ∀ i, i < n → (f i).flat.length = 1) (hn : n ≤ 1000000000) (hk : 1 ≤ k) (hk2 : k ≤ 1000000000) :
    IterOk pg 63 [.iptr [.sl n f], .iptr [.int .i64 (k : Int)]] (bchunksV n f k) := by
  refine ⟨by kernel_rfl, fun S vals l J hs hl hr hi hg hY h0 => ?_⟩
  obtain ⟨v1, v2, rfl⟩ := bvals2 hl
  have r1 := hr 0 (by simp)
  have r2 := hr 1 (by simp)
  obtain ⟨b1, o1, u1, rfl, hb1, hc1, -, hp1⟩ := inv_iptr (S := S) r1
  obtain ⟨b2, o2, u2, rfl, hb2, hc2, -, hp2⟩ := inv_iptr (S := S) r2
  have c1 := hc1 0 (by simp)
  have p1 := hp1 0 (by simp)
  have c2 := hc2 0 (by simp)
  have p2 := hp2 0 (by simp)
  simp only [List.getD_cons_zero, Nat.add_zero] at c1 p1 c2 p2
  generalize u1 0 = w1 at *
  generalize u2 0 = w2 at *
  obtain ⟨a, c, rfl, hnc⟩ : ∃ a c, w1 = .slice a n c ∧ n ≤ c := by
    cases p1 with
    | sl0 => exact ⟨_, _, rfl, Nat.zero_le _⟩
    | sl _ _ _ _ _ _ _ _ hnc => exact ⟨_, _, rfl, hnc⟩
  obtain rfl : w2 = .int .i64 (k : Int) := by cases p2; rfl
  have hlen := bchunksV_len n f k
  have cnt : ∀ j, j * k < n ↔ j < (n + k - 1) / k := fun j => by
    rw [show (j < (n + k - 1) / k) = (j + 1 ≤ (n + k - 1) / k) from rfl, Nat.le_div_iff_mul_le (by omega), Nat.succ_mul]; omega
  refine (bchunk1_w l b1 b2 o1 o2 n c k a hk hn hk2 hnc J S.w (fun j W hJ => ?_) (fun j W hJ hlt => ?_) (fun j W hJ => hg j W _ hJ ⟨rfl, rfl, rfl, Nat.le_refl _, fun _ _ => rfl⟩) h0).mono ?_
  · have := hi j W hJ
    exact ⟨(cell_same (this b1 hb1) o1).trans c1, (cell_same (this b2 hb2) o2).trans c2⟩
  · have hlt' : j < (bchunksV n f k).length := by rw [hlen]; exact (cnt j).1 hlt
    refine hY j W _ hJ hlt' ?_ rfl
    rw [bchunksV_at n f k j hlt']
    exact brepP_sub hf p1 hlt hk
  · rintro e W' ⟨he, m, h1, h2, hJ⟩
    refine ⟨he, ?_⟩
    have : m = (bchunksV n f k).length := by
      rw [hlen]
      apply Nat.le_antisymm
      · rcases h2 with rfl | h2
        · exact Nat.zero_le _
        · have := (cnt _).1 h2; omega
      · apply Nat.le_of_not_lt
        intro h
        have := (cnt m).2 h
        omega
    rw [← this]; exact hJ
def ckBChunk : Ck
  | [.sl n f, .int .i64 k] => some (1 ≤ k, .fn (.func 63) [] [.iptr [.sl n f], .iptr [.int .i64 k]])
  | _ => none
theorem conBChunk : Con pg 35 ckBChunk := by
  intro args q r h hq
  unfold ckBChunk at h
  split at h
  · cases h
    rename_i n f k
    intro S vals hs hh hl hr
    obtain ⟨v1, v2, rfl⟩ := bvals2 hl
    have r1 := hr 0 (by simp)
    have r2 := hr 1 (by simp)
    obtain rfl := inv_int (S := S) r2
    have p1 := inv_sl (S := S) r1
    obtain ⟨a, c, rfl⟩ : ∃ a c, v1 = .slice a n c := by
      cases p1 with
      | sl0 => exact ⟨_, _, rfl⟩
      | sl => exact ⟨_, _, rfl⟩
    refine .inl ⟨by kernel_rfl, (bchunk_w a n c k S.w hq).mono ?_⟩
    rintro e w' ⟨rfl, rfl⟩
    have g0 := (grow_alloc S.w (.cells #[.slice a n c] 28))
    have g1 := (grow_alloc (S.w.alloc (.cells #[.slice a n c] 28)) (.cells #[.int .i64 k] 3))
    have hg : World.grow S.w ((S.w.alloc (.cells #[.slice a n c] 28)).alloc (.cells #[.int .i64 k] 3)) := ⟨rfl, rfl, rfl, Nat.le_trans g0.2.2.2.1 g1.2.2.2.1, fun b hb => (g1.2.2.2.2 b (Nat.lt_of_lt_of_le hb g0.2.2.2.1)).trans (g0.2.2.2.2 b hb)⟩
    have sz : ((S.w.alloc (.cells #[.slice a n c] 28)).alloc (.cells #[.int .i64 k] 3)).heap.size = S.w.heap.size + 2 := by simp
    have at0 : ((S.w.alloc (.cells #[.slice a n c] 28)).alloc (.cells #[.int .i64 k] 3)).cell? ⟨S.w.heap.size, 0, none⟩ = some (.slice a n c) := by
      refine (cell_same (g1.2.2.2.2 S.w.heap.size (by simp)) 0).trans ?_
      have : (S.w.alloc (.cells #[.slice a n c] 28)).heap[S.w.heap.size]? = some (.cells #[.slice a n c] 28) := World.alloc_heap_new _ _
      simp only [World.cell?, this]; rfl
    have at1 : ((S.w.alloc (.cells #[.slice a n c] 28)).alloc (.cells #[.int .i64 k] 3)).cell? ⟨S.w.heap.size + 1, 0, none⟩ = some (.int .i64 k) := by
      have := World.alloc_heap_new (S.w.alloc (.cells #[.slice a n c] 28)) (.cells #[.int .i64 k] 3)
      rw [World.size_alloc] at this
      simp only [World.cell?, this]; rfl
    generalize (S.w.alloc (.cells #[.slice a n c] 28)).alloc (.cells #[.int .i64 k] 3) = w' at *
    obtain ⟨q1, q2⟩ := Sim.grow hs (fun _ => False) w' (fun b => S.imm b ∨ (S.w.heap.size ≤ b ∧ b < w'.heap.size)) hg (fun _ h => .inl h) (fun b hb => hb)
    have p1' : RepP (fun b => S.imm b ∨ (S.w.heap.size ≤ b ∧ b < w'.heap.size)) w' (.sl n f) (.slice a n c) := p1.mono (fun _ h => .inl h) (fun b hb => hg.2.2.2.2 b (hs.immLt b hb))
    refine ⟨_, S.γ, _, rfl, by rw [← hh]; exact q1, by rw [← hh]; exact q2, fun _ _ => rfl, .fn _ [] _ [] [_, _] rfl rfl (fun i hi => by cases hi) fun i hi => ?_⟩
    match i, hi with
    | 0, _ =>
      refine .iptr [.sl n f] _ 0 (fun _ => .slice a n c) (Or.inr ⟨Nat.le_refl _, by omega⟩) (fun j hj => ?_) (fun j hj => rfl) (fun j hj => ?_)
      · obtain rfl : j = 0 := by simpa using hj
        exact at0
      · obtain rfl : j = 0 := by simpa using hj
        exact p1'
    | 1, _ =>
      refine .iptr [.int .i64 k] _ 0 (fun _ => .int .i64 k) (Or.inr ⟨by omega, by omega⟩) (fun j hj => ?_) (fun j hj => rfl) (fun j hj => ?_)
      · obtain rfl : j = 0 := by simpa using hj
        exact at1
      · obtain rfl : j = 0 := by simpa using hj
        exact .int _ _
  · cases h
attribute [push_cast] ckBChunk

/- a function with a loop over a function that hands back an own row -/
section
variable {G : PG}
theorem ncall_inD {ct : Ct} {ow : Nat → Bool} {n : Nat} {an : Nat → List Nat} (ad : List Adj) (hc : CtOk G ct) (hfol : G.prog.follows .mixedOrders = true) (f : FuncId) {fn : Func} {code : Code} {rs : List ResultVar} (hf : G.prog.funcs[f]? = some fn) (hb : fn.body = some code) (hrs : fn.results.toList = rs)
    (hent : entB G.prog f = true) (hn : fn.ntmps = n) (hok : (codeOk an code && Nat.ble n 8999) = true) {args : List V} (ha : Nat.ble args.length n = true) {r : V} {nb : Blk} (hr : r.newOkP = true) (hnb : noIdB nb)
    (h : exec ⟨G, ct, ow, n, an, true, none⟩ code ⟨argE args, hOf []⟩ (PostF G.prog ad rs r [(8999, nb)])) : NCall G f args r nb := by
  simp only [Bool.and_eq_true] at hok
  have hn9 := Nat.le_of_ble_eq_true hok.2
  have ha' := Nat.le_of_ble_eq_true ha
  refine fun S vals hs hh hlen hreps => .inl ⟨hent, ?_⟩
  refine callsIn_wide.1 (callsIn_of_wp_marks (n := 0) hf hb trivial ?_)
  have hrel : Rel G n true S ⟨argE args, hOf []⟩ { tmps := vals.toArray ++ Array.replicate (fn.ntmps - vals.toArray.size) undef, defers := [] } S.w := by
    refine ⟨S.γ, S.imm, by rw [← hh]; exact hs, by rw [← hh]; exact Ext.refl _ _, fun t => ?_, DefOk.nil _ _ _, ?_, hn9⟩
    · show RepV S.γ S.imm S.w (args.getD t .any) _
      by_cases ht : t < args.length
      · have : (vals.toArray ++ Array.replicate (fn.ntmps - vals.toArray.size) undef).getD t undef = vals.getD t undef := by
          have : t < vals.length := by omega
          simp [List.getD_eq_getElem?_getD, Array.getElem?_append, this]
        rw [this]
        exact hreps t ht
      · rw [List.getD_eq_getElem?_getD, List.getElem?_eq_none (by omega)]
        exact .any _
    · simp; omega
  refine wpIn_mono (exec_sound (c := ⟨G, ct, ow, n, an, true, none⟩) ⟨hc, hfol⟩ code hok.1 S _ _ _ _ hrel h) fun e a w he => ?_
  obtain ⟨s, hrel', hk⟩ := he
  obtain ⟨hend, s', hle, hres, hheap⟩ := PostF.post (fn := fn) hrs hk
  obtain ⟨γ, imm, q1, q2, q3, q4, q5, q6⟩ := hle _ _ _ _ _ _ hrel'
  obtain ⟨w', q1, q2, kq, hlv⟩ := defOk_end (F := Fence.wide) (n := 0) (P := G.prog) (fn := fn) (tmps := a.tmps) q4 q1 q2
  have q3 : RepE ⟨γ, imm, s'.heap, w'⟩ s'.env a.tmps := fun t => (q3 t).mono (fun _ h => h) kq fun _ _ => .refl _
  have hpost : LeavesInM Fence.wide 0 G.prog fn a.tmps (fun e w' => ∃ v' γ' imm', e = .returned v' ∧ Sim G ⟨γ', imm', hOf [(8999, nb)], w'⟩ ∧ Ext (fun id => id = 8999) S ⟨γ', imm', hOf [(8999, nb)], w'⟩ ∧ RepV γ' imm' w' r v') a.defers .returning w := by
    refine hlv _ ?_
    show ∃ v, (results fn a.tmps).run G.prog w' = .ok v w' ∧ ∃ v' γ' imm', Ending.returned v = .returned v' ∧ Sim G ⟨γ', imm', hOf [(8999, nb)], w'⟩ ∧ Ext (fun id => id = 8999) S ⟨γ', imm', hOf [(8999, nb)], w'⟩ ∧ RepV γ' imm' w' r v'
    cases hx : resV G.prog fn.results.toList s' with
    | none => rw [hx] at hres; exact hres.elim
    | some x =>
      rw [hx] at hres
      obtain ⟨v, hv1, hv2⟩ := resV_ok (fn := fn) q1 q3 G.prog hx
      have hv3 := hres _ _ _ _ hv2
      let γ' : Gh := fun id => if id < 8999 then S.γ id else γ id
      have g1 : γ' 8999 = γ 8999 := by simp [γ']
      have is8 : ∀ id, (hOf [(8999, nb)] id).isSome = true → id = 8999 := fun id hid => by
        simp only [hOf] at hid
        by_cases e : id = 8999
        · exact e
        · rw [upd_ne _ _ e] at hid; cases hid
      have at8 : ∀ b, hOf [(8999, nb)] 8999 = some b → b = nb := fun b hb => by simp [hOf] at hb; exact hb.symm
      obtain ⟨b', hb', hbl⟩ := leH_ok hheap 8999 nb (by simp [hOf])
      have own8 : ∀ b, blkOf (γ 8999) = some b → Sv.own ⟨γ, imm, s'.heap, w'⟩ b := fun b hb => ⟨8999, by show (s'.heap 8999).isSome = true; rw [hb']; rfl, hb⟩
      refine ⟨v, hv1, v, γ', imm, rfl, ⟨fun id b hb => ?_, fun i j b hi hj _ _ => (is8 i hi).trans (is8 j hj).symm, q1.immLt, fun b ⟨i, hi, hbi⟩ => ?_, q1.tab.of (fun _ h => h) fun _ _ => rfl⟩, ⟨q2.os, q2.tape, q2.output, q2.size, fun b hb ho => q2.keep b hb ho, q2.imm, q2.immNew, fun b ⟨i, hi, hbi⟩ => ?_, fun id hid => ?_⟩, ?_⟩
      · have e := is8 id (by rw [show hOf [(8999, nb)] id = some b from hb]; rfl)
        subst e
        have := at8 b hb
        subst this
        exact (hbl.ok (q1.blk 8999 b' hb')).mono (fun _ h => h) (fun _ _ => rfl) (fun _ _ => rfl) g1 fun j hj => by
          have := noIdB_men hnb j hj
          have e : γ' j = γ j := if_neg (by omega)
          show Evo (γ j) (γ' j)
          rw [e]; exact .refl _
      · have e := is8 i hi
        subst e
        simp only [g1] at hbi
        exact q1.disj b (own8 b hbi)
      · have e := is8 i hi
        subst e
        simp only [g1] at hbi
        exact q2.own b (own8 b hbi)
      · show Evo (S.γ id) (γ' id)
        by_cases h9 : id < 8999
        · rw [show γ' id = S.γ id from if_pos h9]; exact .refl _
        · rw [show γ' id = γ id from if_neg h9]
          exact q2.evo id (by show ¬ id < 9000; have : ¬ id = 8999 := hid; omega)
      · exact hv3.mono (fun _ h => h) (fun _ _ => rfl) fun id hid => by
          have := newOkP_men hr id hid
          subst this
          rw [g1]; exact .refl _
  cases e with
  | normal => exact hpost
  | ret => exact hpost
  | _ => cases hend
end

def ckBEqual : Ck
  | [.sl n f, .sl m g] => some (isBy n f ∧ isBy m g, .bool (bytesOf n f == bytesOf m g))
  | _ => none
theorem isBy.p {n : Nat} {f : Nat → V} (h : isBy n f) : ∀ i, i < n → ∃ m, f i = .int .u8 m := ByI.bytesP h
theorem conBEqual : Con pg 11 ckBEqual := by
  have hct := ctN_ok pg
  intro args q r h hq
  unfold ckBEqual at h
  split at h
  · cases h
    rename_i n f m g
    refine w11 (fun _ => false) [] rfl hct rfl rfl ?_
    push_cast (config := { maxSteps := 10000000 })
    exact ⟨hq.1.p, hq.2.p⟩
  · cases h
attribute [push_cast] ckBEqual

def leapB (y : Int) : Bool := decide (y % 4 = 0 ∧ (y % 100 ≠ 0 ∨ y % 400 = 0))
def ckLeap : Ck
  | [.int .i64 y] => some (0 ≤ y ∧ y ≤ 1000000, .bool (leapB y))
  | _ => none
theorem conLeap : Con pg 121 ckLeap := by
  have hct := ctN_ok pg
  intro args q r h hq
  unfold ckLeap at h
  split at h
  · cases h
    rename_i y
    refine w121 (fun _ => false) [] rfl hct rfl rfl ?_
    push_cast (config := { maxSteps := 10000000 })
    refine ⟨hq.1, fun h => ⟨h, hq.1⟩, fun h => ⟨h, hq.1⟩, ?_⟩
    rw [Bool.eq_iff_iff]
    simp only [leapB, Bool.or_eq_true, Bool.and_eq_true, beq_iff_eq, bne_iff_ne, ne_eq, decide_eq_true_eq]
    omega
  · cases h
attribute [push_cast] ckLeap
def yearLong (y : Int) : Int := if leapB y = true then 366 else 365
def ckYearDays : Ck
  | [.int .i64 y] => some (0 ≤ y ∧ y ≤ 1000000, .int .i64 (yearLong y))
  | _ => none
theorem conYearDays : Con pg 100 ckYearDays := by
  have hct := (ctA_ok conLeap (ctN_ok _))
  intro args q r h hq
  unfold ckYearDays at h
  split at h
  · cases h
    rename_i y
    refine w100 (fun _ => false) [] rfl hct rfl rfl ?_
    push_cast (config := { maxSteps := 10000000 })
    refine ⟨hq, fun h => ?_, fun h => ?_⟩
    · unfold yearLong; rw [if_pos h]
    · unfold yearLong; rw [if_neg (by simp [h])]
  · cases h
attribute [push_cast] ckYearDays
theorem vle_i64 {a b : Int} (h : a = b) : vle (V.int .i64 a) (V.int .i64 b) := by subst h; push_cast; try trivial
def ckMonthDays : Ck
  | [.int .i64 y, .int .i64 m] => some (0 ≤ y ∧ y ≤ 1000000 ∧ 1 ≤ m ∧ m ≤ 12, .int .i64 (monthLongI y m))
  | _ => none
theorem conMonthDays : Con pg 101 ckMonthDays := by
  have hct := (ctA_ok conLeap (ctN_ok _))
  intro args q r h hq
  unfold ckMonthDays at h
  split at h
  · cases h
    rename_i y m
    refine w101 (fun _ => false) [] rfl hct rfl rfl ?_
    push_cast (config := { maxSteps := 10000000 })
    obtain ⟨q1, q2, q3, q4⟩ := hq
    refine ⟨fun h => ⟨h, q1, q2⟩, fun h => ?_, fun h => ⟨⟨by omega, by omega⟩, ?_⟩⟩
    · have := h.2
      simp only [leapB, decide_eq_true_eq] at this
      unfold monthLongI
      rw [if_neg (by omega), if_pos h.1, if_pos this]
    have hf : m = 2 → ¬ (y % 4 = 0 ∧ (y % 100 ≠ 0 ∨ y % 400 = 0)) := fun h2 => by
      have := h h2
      simpa [leapB] using this
    unfold monthLongI
    rcases (by omega : m = 1 ∨ m = 2 ∨ m = 3 ∨ m = 4 ∨ m = 5 ∨ m = 6 ∨ m = 7 ∨ m = 8 ∨ m = 9 ∨ m = 10 ∨ m = 11 ∨ m = 12) with rfl | rfl | rfl | rfl | rfl | rfl | rfl | rfl | rfl | rfl | rfl | rfl
    all_goals
      refine ⟨⟨by omega, by omega, rfl⟩, Nat.le_refl _, trivial, vle_i64 ?_⟩
      simp <;> omega
  · cases h
attribute [push_cast] ckMonthDays
def ckMonthName : Ck
  | [.int .i64 m] => some (1 ≤ m ∧ m ≤ 12, .str (mnN.getD (m - 1).toNat []))
  | _ => none
theorem conMonthName : Con pg 103 ckMonthName := by
  have hct := ctN_ok pg
  intro args q r h hq
  unfold ckMonthName at h
  split at h
  · cases h
    rename_i m
    refine w103 (fun _ => false) [] rfl hct rfl rfl ?_
    push_cast (config := { maxSteps := 10000000 })
    refine ⟨⟨by omega, by omega⟩, ⟨by omega, by omega⟩, ⟨by omega, by omega⟩, ⟨⟨by omega, by omega⟩, ⟨by omega, by omega⟩, by omega⟩, ?_⟩
    obtain ⟨q1, q2⟩ := hq
    rcases (by omega : m = 1 ∨ m = 2 ∨ m = 3 ∨ m = 4 ∨ m = 5 ∨ m = 6 ∨ m = 7 ∨ m = 8 ∨ m = 9 ∨ m = 10 ∨ m = 11 ∨ m = 12) with rfl | rfl | rfl | rfl | rfl | rfl | rfl | rfl | rfl | rfl | rfl | rfl <;> rfl
  · cases h
attribute [push_cast] ckMonthName
def twoL (n : Int) : List UInt8 := [UInt8.ofNat (48 + (n / 10 % 10)).toNat, UInt8.ofNat (48 + n % 10).toNat]
def ckTwo : Ck
  | [.int .i64 n] => some (0 ≤ n ∧ n ≤ 1000000, .str (twoL n))
  | _ => none
theorem conTwo : Con pg 102 ckTwo := by
  have hct := ctN_ok pg
  intro args q r h hq
  unfold ckTwo at h
  split at h
  · cases h
    rename_i n
    refine w102 (fun _ => false) [] rfl hct rfl rfl ?_
    push_cast (config := { maxSteps := 10000000 })
    refine ⟨⟨by omega, by omega, by omega⟩, by omega, ⟨by omega, by omega⟩, by omega, ⟨by omega, by omega⟩, ?_⟩
    unfold twoL
    rw [show (48 + n / 10 % 10) % 256 = 48 + n / 10 % 10 by omega, show (48 + n % 10) % 256 = 48 + n % 10 by omega]
  · cases h
attribute [push_cast] ckTwo

end Go.Abs
