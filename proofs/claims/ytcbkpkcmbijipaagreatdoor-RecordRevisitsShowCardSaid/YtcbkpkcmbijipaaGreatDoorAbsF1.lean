/- what functions of this program compute: contracts, each a function's own -/
import Derived.Test.YtcbkpkcmbijipaaGreatDoorAbsK3
import Derived.Test.YtcbkpkcmbijipaaGreatDoorAbsFacts
import Derived.Test.YtcbkpkcmbijipaaGreatDoorAbsF0
import Derived.Test.YtcbkpkcmbijipaaGreatDoorAbsShelf
import Derived.Lib.SlTrimSet
import Derived.Lib.Atoi
import Derived.Lib.Itoa
import Derived.Lib.ItoaNum
import Derived.Lib.AtoiErrMem
import Derived.Lib.Repeat
import Derived.Lib.ItoaLen
import Derived.Lib.Fold
namespace Go.Abs
open Go Go.Proofs
set_option maxHeartbeats 4000000
set_option maxRecDepth 100000
set_option linter.unusedVariables false
set_option linter.unusedSimpArgs false
/- A LOOP THAT GATHERS ROWS IN A MAP: the rows lie hidden while a round runs, all but the one that the round may touch -/
abbrev Rws := MK → Option (Nat × (Nat → V))
def conM (rows : Rws) (u : MK → Value) : MK → Option V := fun k => (rows k).map fun _ => .con (u k)
def slM (rows : Rws) : MK → Option V := fun k => (rows k).map fun p => .sl p.1 p.2
/-- a hidden row -/
structure RowH (B : Nat → Prop) (imm : Nat → Prop) (own : Nat → Prop) (w : World) (sz n : Nat) (f : Nat → V) (u : Value) (b cap : Nat) (arr : Array Value) (t : TypeId) (lo hi : Nat) : Prop where
  val : u = .slice (some ⟨b, 0, none⟩) n cap
  le : n ≤ cap
  pos : 1 ≤ n
  szp : 0 < sz
  cells : w.heap[b]? = some (.cells arr t (lo, hi))
  size : arr.size = cap * sz
  fr : lo = hi ∨ (sz = 1 ∧ arr.size ≤ lo)
  flat : ∀ i, i < n → (f i).flat.length = sz
  rep : ∀ i j, i < n → j < sz → RepP imm w ((f i).flat.getD j .any) (arr.getD (i * sz + j) undef) ∧ one (arr.getD (i * sz + j) undef)
  ok : B b
  nown : ¬ own b
  nimm : ¬ imm b
def RowE (B : Nat → Prop) (S : Sv) (sz n : Nat) (f : Nat → V) (u : Value) : Prop := ∃ b cap arr t lo hi, RowH B S.imm S.own S.w sz n f u b cap arr t lo hi
theorem RowE.blk {B : Nat → Prop} {S : Sv} {sz n : Nat} {f : Nat → V} {u : Value} (h : RowE B S sz n f u) : ∃ b, blkOf u = some b ∧ B b ∧ ¬ S.own b ∧ ¬ S.imm b ∧ b < S.w.heap.size := by
  obtain ⟨b, cap, arr, t, lo, hi, h⟩ := h
  refine ⟨b, ?_, h.ok, h.nown, h.nimm, (Array.getElem?_eq_some_iff.1 h.cells).1⟩
  have := h.le; have := h.pos
  rw [h.val]; simp [blkOf]; omega
theorem RowE.ext {G : PG} {A : Nat → Prop} {B : Nat → Prop} {S S' : Sv} {sz n : Nat} {f : Nat → V} {u : Value} (h : RowE B S sz n f u) (hs : Sim G S) (k : Ext A S S') : RowE B S' sz n f u := by
  obtain ⟨b, cap, arr, t, lo, hi, h⟩ := h
  have hlt : b < S.w.heap.size := (Array.getElem?_eq_some_iff.1 h.cells).1
  exact ⟨b, cap, arr, t, lo, hi, h.val, h.le, h.pos, h.szp, (k.keep b hlt h.nown).trans h.cells, h.size, h.fr, h.flat, fun i j hi hj => ⟨(h.rep i j hi hj).1.mono k.imm (k.immKeep hs), (h.rep i j hi hj).2⟩, h.ok,
    fun ho => (k.own b ho).elim h.nown fun z => by omega, fun hi => (k.immNew b hi).elim h.nimm fun z => z.elim h.nown fun y => by omega⟩
structure Pool (B : Nat → Prop) (S : Sv) (sz : Nat) (rows : Rws) (u : MK → Value) : Prop where
  row : ∀ k n f, rows k = some (n, f) → RowE B S sz n f (u k)
  apart : ∀ k k' p p', rows k = some p → rows k' = some p' → blkOf (u k) = blkOf (u k') → k = k'
theorem flatPure {x : V} {sz j : Nat} (hx : x.isPure = true) (hl : x.flat.length = sz) (hj : j < sz) : (x.flat.getD j .any).isPure = true := flat_pure hx hl hj
/-- the row that the round may touch, as an own row -/
def hotO (o : Option (Nat × (Nat → V))) : V := match o with
  | some p => .vec 7000 p.1
  | none => .nilsl
def hotL (sz : Nat) (o : Option (Nat × (Nat → V))) : HL := match o with
  | some p => [(7000, .vec sz p.1 p.2)]
  | none => []
def hotOk (sz m : Nat) (hl : HL) (r : Option (Nat × (Nat → V))) (o : V) (hot : HL) : Prop := match r with
  | none => o = .nilsl ∧ hot = []
  | some p => ∃ j, o = .vec j p.1 ∧ hot = [(j, .vec sz p.1 p.2)] ∧ j ≠ m ∧ hOf hl j = none ∧ 1 ≤ p.1 ∧ ∀ i, i < p.1 → (p.2 i).isPure = true
def poolK {T : Type} (d : MD) (sz m : Nat) (l : T → List (Nat × V)) (hl : T → HL) (I : T → Prop) (μ : T → Nat) (rows : T → Rws) (u : MK → Value) (t : T) (k : MK) (K : Exit → St → Prop) (e : Exit) (s' : St) : Prop := match e with
  | .normal => ∃ t' o hot, I t' ∧ μ t' < μ t ∧ levE s' (l t') ∧ levH s' ((m, .mh d (conM (rows t) u) k o) :: (hot ++ hl t')) ∧ hotOk sz m (hl t') (rows t' k) o hot ∧ ∀ k', k' ≠ k → rows t' k' = rows t k'
  | e => ∃ rows' o hot l' hl', levE s' l' ∧ levH s' ((m, .mh d (conM (rows t) u) k o) :: (hot ++ hl')) ∧ hotOk sz m hl' (rows' k) o hot ∧ (∀ k', k' ≠ k → rows' k' = rows t k') ∧ hOf hl' m = none ∧ K e ⟨al l', hOf ((m, .mp d (slM rows')) :: hl')⟩
/-- what is said between the rounds -/
def PoolR (G : PG) (n : Nat) (S0 : Sv) (d : MD) (sz m : Nat) (l : List (Nat × V)) (hl : HL) (rows : Rws) (a : Act) (w : World) : Prop :=
  ∃ u γ imm, Sim G ⟨γ, imm, hOf ((m, .mp d (conM rows u)) :: hl), w⟩ ∧ Ext (· < 9000) S0 ⟨γ, imm, hOf ((m, .mp d (conM rows u)) :: hl), w⟩ ∧ RepE ⟨γ, imm, hOf ((m, .mp d (conM rows u)) :: hl), w⟩ (al l) a.tmps ∧ a.defers = [] ∧ a.tmps.size = n ∧ n ≤ 8999 ∧
    Pool (fun b => S0.own b ∨ S0.w.heap.size ≤ b) ⟨γ, imm, hOf ((m, .mp d (conM rows u)) :: hl), w⟩ sz rows u
section
variable {G : PG}
theorem repP_con {imm : Nat → Prop} {w : World} {v u : Value} (h : RepP imm w (.con v) u) : u = v := by cases h; rfl
/-- a hidden row comes into sight -/
theorem Sim.adopt {S : Sv} (hs : Sim G S) (id : Nat) (val : Value) (k : Blk) (hno : S.h id = none) (hmen : ∀ j b, S.h j = some b → ¬ b.men id) (hb : ∀ b, blkOf val = some b → ¬ S.own b ∧ ¬ S.imm b) (hk : BlkOk (Abs.upd S.γ id val) S.imm S.w id k) :
    Sim G ⟨Abs.upd S.γ id val, S.imm, Abs.upd S.h id (some k), S.w⟩ := by
  refine ⟨fun j b hj => ?_, fun i j b hi hj h1 h2 => ?_, hs.immLt, fun b ⟨i, hi, h1⟩ him => ?_, hs.tab.of (fun _ h => h) fun _ _ => rfl⟩
  · by_cases e : j = id
    · subst e; simp at hj; subst hj; exact hk
    · simp only [upd_ne _ _ e] at hj
      refine (hs.blk j b hj).mono (fun _ h => h) (fun _ _ => rfl) (fun _ _ => rfl) (upd_ne _ _ e) fun i hi => ?_
      by_cases e' : i = id
      · subst e'; exact absurd hi (hmen j b hj)
      · simp only [upd_ne _ _ e']; exact .refl _
  · by_cases e1 : i = id <;> by_cases e2 : j = id
    · rw [e1, e2]
    · subst e1
      simp only [upd_same] at h1
      simp only [upd_ne _ _ e2] at h2 hj
      exact absurd ⟨j, hj, h2⟩ (hb b h1).1
    · subst e2
      simp only [upd_same] at h2
      simp only [upd_ne _ _ e1] at h1 hi
      exact absurd ⟨i, hi, h1⟩ (hb b h2).1
    · simp only [upd_ne _ _ e1] at h1 hi
      simp only [upd_ne _ _ e2] at h2 hj
      exact hs.inj i j b hi hj h1 h2
  · by_cases e : i = id
    · subst e
      simp only [upd_same] at h1
      exact (hb b h1).2 him
    · simp only [upd_ne _ _ e] at h1 hi
      exact hs.disj b ⟨i, hi, h1⟩ him
theorem RepE.noMen {γ γ' : Gh} {imm : Nat → Prop} {w : World} {h h' : Heap} {l : List (Nat × V)} {tm : Array Value} (hr : RepE ⟨γ, imm, h, w⟩ (al l) tm) (hg : ∀ id, id ≠ 7000 → γ' id = γ id) (hm : ∀ t, V.men 7000 (al l t) = false) : RepE ⟨γ', imm, h', w⟩ (al l) tm := fun t =>
  RepV.mono (fun _ h => h) (fun _ _ => rfl) (hr t) fun id hid => by
    by_cases e : id = 7000
    · subst e; rw [hm t] at hid; cases hid
    · show Evo (γ id) (γ' id)
      rw [hg id e]; exact .refl _
theorem RowE.asVec {B : Nat → Prop} {S : Sv} {sz n : Nat} {f : Nat → V} {u : Value} (h : RowE B S sz n f u) {γ : Gh} {id : Nat} (hg : γ id = u) : BlkOk γ S.imm S.w id (.vec sz n f) := by
  obtain ⟨b, cap, arr, t, lo, hi, h⟩ := h
  exact ⟨h.szp, h.flat, .inr ⟨b, cap, arr, t, lo, hi, hg.trans h.val, h.le, by have := h.le; have := h.pos; omega, h.cells, h.size, h.fr, fun i j hi hj => ⟨.pure (h.rep i j hi hj).1, (h.rep i j hi hj).2⟩⟩⟩
theorem RowE.ofVec {B : Nat → Prop} {S : Sv} (S' : Sv) {sz n : Nat} {f : Nat → V} {id : Nat} (h : BlkOk S.γ S.imm S.w id (.vec sz n f)) (hn : 1 ≤ n) (hp : ∀ i, i < n → (f i).isPure = true) (hi : S'.imm = S.imm) (hw : S'.w = S.w) (hb : ∀ b, blkOf (S.γ id) = some b → B b ∧ ¬ S'.own b ∧ ¬ S'.imm b) : RowE B S' sz n f (S.γ id) := by
  obtain ⟨h1, h2, ⟨h3, _⟩ | ⟨b, cap, arr, t, lo, hi', h3, h4, hc, h5, h6, h7, h8⟩⟩ := h
  · omega
  · obtain ⟨q1, q2, q3⟩ := hb b (by rw [h3]; simp [blkOf]; omega)
    refine ⟨b, cap, arr, t, lo, hi', h3, h4, hn, h1, by rw [hw]; exact h5, h6, h7, h2, fun i j hi' hj => ⟨?_, (h8 i j hi' hj).2⟩, q1, q2, q3⟩
    rw [hi, hw]
    exact isPure_rep (S := S) (h8 i j hi' hj).1 (flat_pure (hp i hi') (h2 i hi') hj)
theorem vec_self {γ : Gh} {imm : Nat → Prop} {w : World} {id sz n : Nat} {f : Nat → V} {v : Value} (h : RepV γ imm w (.vec id n) v) (hb : BlkOk γ imm w id (.vec sz n f)) : v = γ id := by
  obtain ⟨a, m, c, g1, g2, g3⟩ := inv_vec (S := ⟨γ, imm, fun _ => none, w⟩) h
  have g1 : γ id = .slice a m c := g1
  obtain ⟨_, _, ⟨h3, a', h4⟩ | ⟨b, cap, arr, t, lo, hi', h3, _⟩⟩ := hb
  · rw [h4] at g1; cases g1; exact g3 h3
  · rw [h3] at g1; cases g1; exact g3 rfl
/-- the rows come to rest -/
theorem PoolR.frozen {n : Nat} {S0 : Sv} {d : MD} {sz m : Nat} {l : List (Nat × V)} {hl : HL} {rows : Rws} {a : Act} {w : World} (h : PoolR G n S0 d sz m l hl rows a w) (hm : hOf hl m = none) : Rel G n false S0 ⟨al l, hOf ((m, .mp d (slM rows)) :: hl)⟩ a w := by
  obtain ⟨u, γ, imm, hs, hx, he, hd, ht, hn, hp⟩ := h
  let imm' : Nat → Prop := fun b => imm b ∨ ∃ k p, rows k = some p ∧ blkOf (u k) = some b
  have him : ∀ b, imm b → imm' b := fun b h => .inl h
  have pb : ∀ k p b, rows k = some p → blkOf (u k) = some b → (S0.own b ∨ S0.w.heap.size ≤ b) ∧ ¬ Sv.own ⟨γ, imm, hOf ((m, .mp d (conM rows u)) :: hl), w⟩ b ∧ ¬ imm b ∧ b < w.heap.size := fun k p b hk hb => by
    obtain ⟨b', h1, h2, h3, h4, h5⟩ := (hp.row k p.1 p.2 hk).blk
    rw [hb] at h1; cases h1
    exact ⟨h2, h3, h4, h5⟩
  have hmb : BlkOk γ imm w m (.mp d (conM rows u)) := hs.blk m _ (by simp [hOf])
  have same : ∀ id, (hOf ((m, .mp d (slM rows)) :: hl) id).isSome = (hOf ((m, .mp d (conM rows u)) :: hl) id).isSome := fun id => by
    simp only [hOf]
    by_cases e : id = m
    · subst e; simp
    · rw [upd_ne _ _ e, upd_ne _ _ e]
  have s1 : Sim G ⟨γ, imm', hOf ((m, .mp d (slM rows)) :: hl), w⟩ := by
    refine ⟨fun id b hb => ?_, fun i j b hi hj => hs.inj i j b ((same i).symm.trans hi) ((same j).symm.trans hj), fun b hb => ?_, fun b ⟨i, hi, hb⟩ hi' => ?_, hs.tab.of him fun _ _ => rfl⟩
    · by_cases e : id = m
      · subst e
        simp only [hOf, upd_same, Option.some.injEq] at hb
        subst hb
        obtain ⟨bb, es, clock, g1, g2, g3⟩ := hmb
        refine ⟨bb, es, clock, g1, g2, g3.keys, g3.apart, fun k hk e he hek => ?_, fun k hk v hv => ?_⟩
        · obtain ⟨v, e1, e2⟩ := g3.at' k hk e he hek
          unfold conM at e1
          cases hr : rows k with
          | none => rw [hr] at e1; cases e1
          | some p =>
            rw [hr] at e1
            simp only [Option.map_some, Option.some.injEq] at e1
            subst e1
            have eu : e.val = u k := repP_con e2
            refine ⟨.sl p.1 p.2, by unfold slM; rw [hr]; rfl, ?_⟩
            rw [eu]
            obtain ⟨b, cap, arr, t, lo, hi, q⟩ := hp.row k p.1 p.2 hr
            rw [q.val]
            have hub : blkOf (u k) = some b := by
              have := q.le; have := q.pos
              rw [q.val]; simp [blkOf]; omega
            refine .sl p.1 p.2 b 0 cap sz (fun i j => arr.getD (i * sz + j) undef) (.inr ⟨k, p, hr, hub⟩) q.le q.szp q.flat (fun i j hi hj => ?_) (fun i j hi hj => (q.rep i j hi hj).2) fun i j hi hj => (q.rep i j hi hj).1.mono him fun _ _ => rfl
            rw [Nat.zero_add, cell_of_heap q.cells]
            have h1 := mul_lt hi hj
            have h2 : p.1 * sz ≤ cap * sz := Nat.mul_le_mul_right _ q.le
            have h3 := q.size
            have : i * sz + j < arr.size := by omega
            simp [Array.getD, this]
        · unfold slM at hv
          cases hr : rows k with
          | none => rw [hr] at hv; cases hv
          | some p => exact g3.no k hk (.con (u k)) (by unfold conM; rw [hr]; rfl)
      · simp only [hOf, upd_ne _ _ e] at hb
        exact (hs.blk id b (by simp only [hOf, upd_ne _ _ e]; exact hb)).mono him (fun _ _ => rfl) (fun _ _ => rfl) rfl fun _ _ => .refl _
    · rcases hb with hb | ⟨k, p, h1, h2⟩
      · exact hs.immLt b hb
      · exact (pb k p b h1 h2).2.2.2
    · have ho : Sv.own ⟨γ, imm, hOf ((m, .mp d (conM rows u)) :: hl), w⟩ b := ⟨i, (same i).symm.trans hi, hb⟩
      rcases hi' with h | ⟨k, p, h1, h2⟩
      · exact hs.disj b ho h
      · exact (pb k p b h1 h2).2.1 ho
  refine ⟨γ, imm', s1, ⟨hx.os, hx.tape, hx.output, hx.size, hx.keep, fun b h => .inl (hx.imm b h), fun b hb => ?_, fun b ⟨i, hi, hb⟩ => hx.own b ⟨i, (same i).symm.trans hi, hb⟩, hx.evo⟩, fun t => RepV.mono him (fun _ _ => rfl) (he t) fun _ _ => .refl _, hd, ht, hn⟩
  rcases hb with h | ⟨k, p, h1, h2⟩
  · exact hx.immNew b h
  · rcases (pb k p b h1 h2).1 with h | h
    · exact .inr (.inl h)
    · exact .inr (.inr h)

theorem RowE.own {B : Nat → Prop} {S S' : Sv} {sz n : Nat} {f : Nat → V} {u : Value} (h : RowE B S sz n f u) (hi : S'.imm = S.imm) (hw : S'.w = S.w) (ho : ∀ b, blkOf u = some b → ¬ S'.own b) : RowE B S' sz n f u := by
  obtain ⟨b0, k1, _⟩ := h.blk
  obtain ⟨b, cap, arr, t, lo, hi', h⟩ := h
  have hb : blkOf u = some b := by
    have := h.le; have := h.pos
    rw [h.val]; simp [blkOf]; omega
  exact ⟨b, cap, arr, t, lo, hi', h.val, h.le, h.pos, h.szp, by rw [hw]; exact h.cells, h.size, h.fr, h.flat, fun i j p q => by rw [hi, hw]; exact h.rep i j p q, h.ok, ho b hb, by rw [hi]; exact h.nimm⟩
/-- into sight: the state of a round -/
theorem PoolR.sight {sz m : Nat} {d : MD} {l : List (Nat × V)} {hl : HL} {rows : Rws} {u : MK → Value} {γ : Gh} {imm : Nat → Prop} {w : World} {B : Nat → Prop} (k : MK) (hk : d.has k) (hm7 : m ≠ 7000)
    (hH : ∀ id b, hOf hl id = some b → ¬ b.men 7000 ∧ id ≠ 7000 ∧ id ≠ m) (hs : Sim G ⟨γ, imm, hOf ((m, .mp d (conM rows u)) :: hl), w⟩) (hp : Pool B ⟨γ, imm, hOf ((m, .mp d (conM rows u)) :: hl), w⟩ sz rows u) :
    ∃ γ1, (∀ id, id ≠ 7000 → γ1 id = γ id) ∧ Sim G ⟨γ1, imm, hOf ((m, .mh d (conM rows u) k (hotO (rows k))) :: (hotL sz (rows k) ++ hl)), w⟩ ∧
      ∀ b, Sv.own ⟨γ1, imm, hOf ((m, .mh d (conM rows u) k (hotO (rows k))) :: (hotL sz (rows k) ++ hl)), w⟩ b → Sv.own ⟨γ, imm, hOf ((m, .mp d (conM rows u)) :: hl), w⟩ b ∨ ∃ p, rows k = some p ∧ blkOf (u k) = some b := by
  obtain ⟨bb, es, clock, g1, g2, g3⟩ := hs.blk m (.mp d (conM rows u)) (by simp [hOf])
  cases hr : rows k with
  | none =>
    refine ⟨γ, fun _ _ => rfl, ?_, ?_⟩
    · refine (hs.weaken (fun _ => False) (hOf ((m, .mh d (conM rows u) k .nilsl) :: hl)) fun id b hb => ?_).1
      by_cases e : id = m
      · subst e
        simp only [hOf, upd_same, Option.some.injEq] at hb
        subst hb
        refine ⟨by simp [hOf], bb, es, clock, g1, g2, hk, .inl rfl, g3.keys, g3.apart, fun l hl _ e he hek => g3.at' l hl e he hek, fun l hl _ v hv => g3.no l hl v hv, fun e he hek => ?_, fun ⟨_, _, h⟩ => by cases h⟩
        obtain ⟨v, e1, _⟩ := g3.at' k hk e he hek
        unfold conM at e1; rw [hr] at e1; cases e1
      · simp only [hOf, upd_ne _ _ e] at hb
        have h2 : hOf ((m, .mp d (conM rows u)) :: hl) id = some b := by simp only [hOf, upd_ne _ _ e]; exact hb
        exact ⟨by show (hOf ((m, .mp d (conM rows u)) :: hl) id).isSome = true; rw [h2]; rfl, hs.blk id b h2⟩
    · rintro b ⟨i, hi, hb⟩
      refine .inl ⟨i, ?_, hb⟩
      have hi : (hOf ((m, .mh d (conM rows u) k .nilsl) :: hl) i).isSome = true := hi
      show (hOf ((m, .mp d (conM rows u)) :: hl) i).isSome = true
      simp only [hOf] at hi ⊢
      by_cases e : i = m
      · subst e; simp
      · rw [upd_ne _ _ e] at hi ⊢; exact hi
  | some p =>
    obtain ⟨n, f⟩ := p
    have hrow := hp.row k n f hr
    obtain ⟨b0, q1, q2, q3, q4, q5⟩ := hrow.blk
    have hno : hOf ((m, .mp d (conM rows u)) :: hl) 7000 = none := by
      simp only [hOf, upd_ne _ _ (Ne.symm hm7)]
      cases h : hOf hl 7000 with
      | none => rfl
      | some b => exact absurd rfl (hH 7000 b h).2.1
    have hmen : ∀ j b, hOf ((m, .mp d (conM rows u)) :: hl) j = some b → ¬ b.men 7000 := fun j b hj => by
      by_cases e : j = m
      · subst e
        simp only [hOf, upd_same, Option.some.injEq] at hj
        subst hj; exact fun h => h
      · simp only [hOf, upd_ne _ _ e] at hj
        exact (hH j b hj).1
    have ha := Sim.adopt hs 7000 (u k) (.vec sz n f) hno hmen (fun b hb => by rw [q1] at hb; cases hb; exact ⟨q3, q4⟩) (hrow.asVec (by simp))
    refine ⟨Abs.upd γ 7000 (u k), fun id h => upd_ne _ _ h, ?_, ?_⟩
    · refine (ha.weaken (fun _ => False) (hOf ((m, .mh d (conM rows u) k (.vec 7000 n)) :: (7000, .vec sz n f) :: hl)) fun id b hb => ?_).1
      by_cases e : id = m
      · subst e
        simp only [hOf, upd_same, Option.some.injEq] at hb
        subst hb
        have hS : (Abs.upd (hOf ((id, .mp d (conM rows u)) :: hl)) 7000 (some (.vec sz n f)) id).isSome = true := by rw [upd_ne _ _ hm7]; simp [hOf]
        refine ⟨hS, bb, es, clock, by show Abs.upd γ 7000 (u k) id = _; rw [upd_ne _ _ hm7]; exact g1, g2, hk, .inr (.inr ⟨_, _, rfl⟩), g3.keys, g3.apart, fun l hl _ e he hek => g3.at' l hl e he hek, fun l hl _ v hv => g3.no l hl v hv, fun e he hek => ?_, fun _ => ?_⟩
        · obtain ⟨v, e1, e2⟩ := g3.at' k hk e he hek
          unfold conM at e1; rw [hr] at e1
          simp only [Option.map_some, Option.some.injEq] at e1
          subst e1
          rw [repP_con e2]
          obtain ⟨b, cap, arr, t, lo, hi, q⟩ := hrow
          refine ⟨.vec 7000 n (u k) _ _ _ ((upd_same γ 7000 (u k)).trans q.val) (Nat.le_refl _) (fun _ => (upd_same γ 7000 (u k)).symm) ?_, fun h => by cases h⟩
          rw [q.val]; rfl
        · exact g3.no k hk (.con (u k)) (by unfold conM; rw [hr]; rfl)
      · by_cases e7 : id = 7000
        · subst e7
          simp only [hOf, upd_ne _ _ e, upd_same, Option.some.injEq] at hb
          subst hb
          have h7 : Abs.upd (hOf ((m, .mp d (conM rows u)) :: hl)) 7000 (some (.vec sz n f)) 7000 = some (.vec sz n f) := upd_same _ _ _
          exact ⟨by show (Abs.upd (hOf ((m, .mp d (conM rows u)) :: hl)) 7000 (some (.vec sz n f)) 7000).isSome = true; rw [h7]; rfl, ha.blk 7000 _ h7⟩
        · simp only [hOf, upd_ne _ _ e, upd_ne _ _ e7] at hb
          have h2 : Abs.upd (hOf ((m, .mp d (conM rows u)) :: hl)) 7000 (some (.vec sz n f)) id = some b := by rw [upd_ne _ _ e7]; simp only [hOf, upd_ne _ _ e]; exact hb
          exact ⟨by show (Abs.upd (hOf ((m, .mp d (conM rows u)) :: hl)) 7000 (some (.vec sz n f)) id).isSome = true; rw [h2]; rfl, ha.blk id b h2⟩
    · rintro b ⟨i, hi, hb⟩
      have hi : (hOf ((m, .mh d (conM rows u) k (.vec 7000 n)) :: (7000, .vec sz n f) :: hl) i).isSome = true := hi
      have hb : blkOf (Abs.upd γ 7000 (u k) i) = some b := hb
      by_cases e7 : i = 7000
      · subst e7; rw [upd_same] at hb; exact .inr ⟨(n, f), rfl, hb⟩
      · rw [upd_ne _ _ e7] at hb
        refine .inl ⟨i, ?_, hb⟩
        show (hOf ((m, .mp d (conM rows u)) :: hl) i).isSome = true
        simp only [hOf] at hi ⊢
        by_cases e : i = m
        · subst e; simp
        · rw [upd_ne _ _ e, upd_ne _ _ e7] at hi; rw [upd_ne _ _ e]; exact hi

/-- out of sight again -/
theorem PoolR.out {n : Nat} {S0 : Sv} {sz m : Nat} {d : MD} {l' : List (Nat × V)} {hl hl' : HL} {rows rows' : Rws} {u : MK → Value} {γ γ1 : Gh} {imm : Nat → Prop} {w w' : World} {k : MK} {o : V} {hot : HL} {a' : Act}
    (hx : Ext (· < 9000) S0 ⟨γ, imm, hOf ((m, .mp d (conM rows u)) :: hl), w⟩)
    (hs : Sim G ⟨γ, imm, hOf ((m, .mp d (conM rows u)) :: hl), w⟩)
    (hp : Pool (fun b => S0.own b ∨ S0.w.heap.size ≤ b) ⟨γ, imm, hOf ((m, .mp d (conM rows u)) :: hl), w⟩ sz rows u)
    (hg : ∀ id, id ≠ 7000 → γ1 id = γ id) {H1 : Heap} (hs1 : Sim G ⟨γ1, imm, H1, w⟩)
    (ho1 : ∀ b, Sv.own ⟨γ1, imm, H1, w⟩ b → Sv.own ⟨γ, imm, hOf ((m, .mp d (conM rows u)) :: hl), w⟩ b ∨ ∃ p, rows k = some p ∧ blkOf (u k) = some b)
    (hr : Rel G n false ⟨γ1, imm, H1, w⟩ ⟨al l', hOf ((m, .mh d (conM rows u) k o) :: (hot ++ hl'))⟩ a' w')
    (ho : hotOk sz m hl' (rows' k) o hot) (hrow : ∀ k', k' ≠ k → rows' k' = rows k') (hm : hOf hl' m = none) : PoolR G n S0 d sz m l' hl' rows' a' w' := by
  obtain ⟨γ2, imm2, hs2, hx2, he2, hd2, ht2, hn2⟩ := hr
  have own1 : ∀ b, Sv.own ⟨γ1, imm, H1, w⟩ b → S0.own b ∨ S0.w.heap.size ≤ b := fun b hb => by
    rcases ho1 b hb with h | ⟨p, h1, h2⟩
    · exact hx.own b h
    · obtain ⟨b', q1, q2, _⟩ := (hp.row k p.1 p.2 h1).blk
      rw [h2] at q1; cases q1; exact q2
  have own2 : ∀ b, Sv.own ⟨γ2, imm2, hOf ((m, .mh d (conM rows u) k o) :: (hot ++ hl')), w'⟩ b → S0.own b ∨ S0.w.heap.size ≤ b := fun b hb => by
    rcases hx2.own b hb with h | h
    · exact own1 b h
    · exact .inr (Nat.le_trans hx.size h)
  -- the other rows are as they were
  have oth : ∀ k' n f, k' ≠ k → rows k' = some (n, f) → RowE (fun b => S0.own b ∨ S0.w.heap.size ≤ b) ⟨γ2, imm2, hOf ((m, .mh d (conM rows u) k o) :: (hot ++ hl')), w'⟩ sz n f (u k') := fun k' n f hne hk' => by
    have h1 := hp.row k' n f hk'
    obtain ⟨b', q1, q2, q3, q4, q5⟩ := h1.blk
    refine RowE.ext (h1.own (S' := ⟨γ1, imm, H1, w⟩) rfl rfl fun b hb hb1 => ?_) hs1 hx2
    rw [q1] at hb; cases hb
    rcases ho1 b' hb1 with h | ⟨p, r1, r2⟩
    · exact q3 h
    · exact hne (hp.apart k' k _ _ hk' r1 (by rw [q1, r2]))
  have hmb := hs2.blk m (.mh d (conM rows u) k o) (by simp [hOf])
  obtain ⟨bb, es, clock, g1, g2, g3⟩ := hmb
  -- the row that was in sight
  have hot' : ∃ v, (∀ p, rows' k = some p → RowE (fun b => S0.own b ∨ S0.w.heap.size ≤ b) ⟨γ2, imm2, hOf ((m, .mp d (conM rows' fun k' => if k' = k then v else u k')) :: hl'), w'⟩ sz p.1 p.2 v ∧ (∃ b, blkOf v = some b ∧ Sv.own ⟨γ2, imm2, hOf ((m, .mh d (conM rows u) k o) :: (hot ++ hl')), w'⟩ b) ∧ (∀ e ∈ es.toList, e.key = k.val → e.val = v) ∧ ∃ i n, o = .vec i n) ∧ (rows' k = none → o = .nilsl ∧ hot = []) := by
    cases hk : rows' k with
    | none => rw [hk] at ho; exact ⟨undef, fun p h => (by cases h), fun _ => ho⟩
    | some p =>
      rw [hk] at ho
      obtain ⟨j, rfl, rfl, hjm, hjn, hp1, hpp⟩ := ho
      have hjb : hOf ((m, .mh d (conM rows u) k (.vec j p.1)) :: ([(j, .vec sz p.1 p.2)] ++ hl')) j = some (.vec sz p.1 p.2) := by
        show hOf ((m, .mh d (conM rows u) k (.vec j p.1)) :: (j, .vec sz p.1 p.2) :: hl') j = _
        simp only [hOf, upd_ne _ _ hjm, upd_same]
      have hb : BlkOk γ2 imm2 w' j (.vec sz p.1 p.2) := hs2.blk j _ hjb
      have hjs : (hOf ((m, .mh d (conM rows u) k (.vec j p.1)) :: ([(j, .vec sz p.1 p.2)] ++ hl')) j).isSome = true := by rw [hjb]; rfl
      refine ⟨γ2 j, fun q hq => ?_, fun h => (by cases h)⟩
      cases hq
      have obj : ∀ b, blkOf (γ2 j) = some b → Sv.own ⟨γ2, imm2, hOf ((m, .mh d (conM rows u) k (.vec j p.1)) :: ([(j, .vec sz p.1 p.2)] ++ hl')), w'⟩ b := fun b hb => ⟨j, hjs, hb⟩
      refine ⟨RowE.ofVec (S := ⟨γ2, imm2, fun _ => none, w'⟩) _ hb hp1 hpp rfl rfl fun b hb1 => ⟨own2 b (obj b hb1), fun ⟨i, hi, hib⟩ => ?_, fun h => hs2.disj b (obj b hb1) h⟩, ?_, fun e he hek => ?_, ⟨_, _, rfl⟩⟩
      · have hi : (hOf ((m, .mp d (conM rows' _)) :: hl') i).isSome = true := hi
        have hij : i ≠ j := fun e => by
          subst e
          simp only [hOf, upd_ne _ _ hjm, hjn] at hi; cases hi
        have hi2 : (hOf ((m, .mh d (conM rows u) k (.vec j p.1)) :: ([(j, .vec sz p.1 p.2)] ++ hl')) i).isSome = true := by
          show (hOf ((m, .mh d (conM rows u) k (.vec j p.1)) :: (j, .vec sz p.1 p.2) :: hl') i).isSome = true
          simp only [hOf] at hi ⊢
          by_cases e : i = m
          · subst e; simp
          · rw [upd_ne _ _ e] at hi ⊢; rw [upd_ne _ _ hij]; exact hi
        exact hij (hs2.inj i j b hi2 hjs hib hb1)
      · obtain ⟨_, _, ⟨z, _⟩ | ⟨b, cap, arr, t, lo, hi', z1, z2, z3, _⟩⟩ := hb
        · omega
        · have e : blkOf (γ2 j) = some b := by rw [z1]; simp [blkOf]; omega
          exact ⟨b, e, obj b e⟩
      · exact vec_self (g3.hot e he hek).1 hb
  obtain ⟨v, hv1, hv2⟩ := hot'
  refine ⟨fun k' => if k' = k then v else u k', γ2, imm2, ?_, ?_, he2, ?_, ht2, hn2, ?_⟩
  · refine (hs2.weaken (fun _ => False) (hOf ((m, .mp d (conM rows' fun k' => if k' = k then v else u k')) :: hl')) fun id b hb => ?_).1
    by_cases e : id = m
    · subst e
      simp only [hOf, upd_same, Option.some.injEq] at hb
      subst hb
      refine ⟨by simp [hOf], bb, es, clock, g1, g2, g3.keys, g3.apart, fun k' hk' e he hek => ?_, fun k' hk' x hx' => ?_⟩
      · by_cases ek : k' = k
        · subst ek
          cases hrk : rows' k' with
          | none => exact absurd (hv2 hrk).1 (g3.hot e he hek).2
          | some p =>
            refine ⟨.con v, by unfold conM; rw [hrk]; simp, ?_⟩
            rw [(hv1 p hrk).2.2.1 e he hek]; exact .con v
        · obtain ⟨x, e1, e2⟩ := g3.at' k' hk' ek e he hek
          refine ⟨x, ?_, e2⟩
          unfold conM at e1 ⊢
          rw [hrow k' ek]; simp only [if_neg ek]; exact e1
      · by_cases ek : k' = k
        · subst ek
          cases hrk : rows' k' with
          | none => unfold conM at hx'; rw [hrk] at hx'; cases hx'
          | some p => exact g3.is' (hv1 p hrk).2.2.2
        · refine g3.no k' hk' ek x ?_
          unfold conM at hx' ⊢
          rw [hrow k' ek] at hx'; simp only [if_neg ek] at hx'; exact hx'
    · simp only [hOf, upd_ne _ _ e] at hb
      have h2 : hOf ((m, .mh d (conM rows u) k o) :: (hot ++ hl')) id = some b := by
        cases hrk : rows' k with
        | none =>
          rw [(hv2 hrk).2]
          show hOf ((m, _) :: hl') id = _
          simp only [hOf, upd_ne _ _ e]; exact hb
        | some p =>
          rw [hrk] at ho
          obtain ⟨j, rfl, rfl, hjm, hjn, _⟩ := ho
          show hOf ((m, _) :: (j, _) :: hl') id = _
          have hij : id ≠ j := fun e2 => by subst e2; rw [hjn] at hb; cases hb
          simp only [hOf, upd_ne _ _ e, upd_ne _ _ hij]; exact hb
      exact ⟨by show (hOf ((m, .mh d (conM rows u) k o) :: (hot ++ hl')) id).isSome = true; rw [h2]; rfl, hs2.blk id b h2⟩
  · have own3 : ∀ b, Sv.own ⟨γ2, imm2, hOf ((m, .mp d (conM rows' fun k' => if k' = k then v else u k')) :: hl'), w'⟩ b → Sv.own ⟨γ2, imm2, hOf ((m, .mh d (conM rows u) k o) :: (hot ++ hl')), w'⟩ b := fun b ⟨i, hi, hb⟩ => by
      refine ⟨i, ?_, hb⟩
      have hi : (hOf ((m, .mp d (conM rows' fun k' => if k' = k then v else u k')) :: hl') i).isSome = true := hi
      show (hOf ((m, .mh d (conM rows u) k o) :: (hot ++ hl')) i).isSome = true
      simp only [hOf] at hi ⊢
      by_cases e : i = m
      · subst e; simp
      · rw [upd_ne _ _ e] at hi ⊢
        cases hrk : rows' k with
        | none => rw [(hv2 hrk).2]; exact hi
        | some p =>
          rw [hrk] at ho
          obtain ⟨j, rfl, rfl, hjm, hjn, _⟩ := ho
          show (hOf ((j, _) :: hl') i).isSome = true
          simp only [hOf]
          by_cases e2 : i = j
          · subst e2; simp
          · rw [upd_ne _ _ e2]; exact hi
    refine ⟨hx2.os.trans hx.os, hx2.tape.trans hx.tape, hx2.output.trans hx.output, Nat.le_trans hx.size hx2.size, fun b hb hno => ?_, fun b hb => hx2.imm b (hx.imm b hb), fun b hb => ?_, fun b hb => own2 b (own3 b hb), fun id hA => ?_⟩
    · rw [← hx.keep b hb hno]
      exact hx2.keep b (Nat.lt_of_lt_of_le hb hx.size) fun h => (own1 b h).elim hno fun z => by omega
    · rcases hx2.immNew b hb with h | h | h
      · exact hx.immNew b h
      · exact .inr (own1 b h)
      · exact .inr (.inr (Nat.le_trans hx.size h))
    · have h1 := hx.evo id hA
      have h2 := hx2.evo id hA
      have e7 : id ≠ 7000 := fun e => hA (by omega)
      have h2 : Evo (γ1 id) (γ2 id) := h2
      rw [hg id e7] at h2
      exact h1.trans h2
  · exact hd2
  · have own3 : ∀ b, Sv.own ⟨γ2, imm2, hOf ((m, .mp d (conM rows' fun k' => if k' = k then v else u k')) :: hl'), w'⟩ b → Sv.own ⟨γ2, imm2, hOf ((m, .mh d (conM rows u) k o) :: (hot ++ hl')), w'⟩ b := fun b ⟨i, hi, hb⟩ => by
      refine ⟨i, ?_, hb⟩
      have hi : (hOf ((m, .mp d (conM rows' fun k' => if k' = k then v else u k')) :: hl') i).isSome = true := hi
      show (hOf ((m, .mh d (conM rows u) k o) :: (hot ++ hl')) i).isSome = true
      simp only [hOf] at hi ⊢
      by_cases e : i = m
      · subst e; simp
      · rw [upd_ne _ _ e] at hi ⊢
        cases hrk : rows' k with
        | none => rw [(hv2 hrk).2]; exact hi
        | some p =>
          rw [hrk] at ho
          obtain ⟨j, rfl, rfl, hjm, hjn, _⟩ := ho
          show (hOf ((j, _) :: hl') i).isSome = true
          simp only [hOf]
          by_cases e2 : i = j
          · subst e2; simp
          · rw [upd_ne _ _ e2]; exact hi
    refine ⟨fun k' n f hk' => ?_, fun k1 k2 p1 p2 h1 h2 he => ?_⟩
    · by_cases ek : k' = k
      · subst ek
        simp only [if_true]
        exact (hv1 (n, f) hk').1
      · simp only [if_neg ek]
        rw [hrow k' ek] at hk'
        have h1 := oth k' n f ek hk'
        obtain ⟨b', q1, q2, q3, _⟩ := h1.blk
        exact h1.own rfl rfl fun b hb hb1 => by rw [q1] at hb; cases hb; exact q3 (own3 b' hb1)
    · have apart : ∀ k' p' p, k' ≠ k → rows' k' = some p' → rows' k = some p → blkOf (u k') = blkOf v → False := fun k' p' p hne h1 h2 he => by
        rw [hrow k' hne] at h1
        obtain ⟨b', q1, q2, q3, _⟩ := (oth k' p'.1 p'.2 hne h1).blk
        obtain ⟨b, r1, r2⟩ := (hv1 p h2).2.1
        rw [q1, r1] at he; cases he
        exact q3 r2
      by_cases e1 : k1 = k <;> by_cases e2 : k2 = k
      · rw [e1, e2]
      · subst e1; simp only [if_true, if_neg e2] at he
        exact (apart k2 p2 p1 e2 h2 h1 he.symm).elim
      · subst e2; simp only [if_true, if_neg e1] at he
        exact (apart k1 p1 p2 e1 h1 h2 he).elim
      · simp only [if_neg e1, if_neg e2] at he
        rw [hrow k1 e1] at h1
        rw [hrow k2 e2] at h2
        exact hp.apart k1 k2 p1 p2 h1 h2 he
/-- THE LOOP -/
theorem LoopW.pool {c : Cfg} (hc : CfgOk c) (hdf : c.df = false) {b : Code} (hok : codeOk c.an b = true) {s : St} {K : Exit → St → Prop} {T : Type} (d : MD) (sz m : Nat) (l : T → List (Nat × V)) (hl : T → HL) (I : T → Prop) (μ : T → Nat) (rows : T → Rws) (key : T → MK) (t0 : T)
    (h0 : I t0 ∧ levE s (l t0) ∧ levH s ((m, .mp d fun _ => none) :: hl t0)) (hr0 : rows t0 = fun _ => none) (hm7 : m ≠ 7000) (hE : ∀ t x, V.men 7000 (al (l t) x) = false) (hH : ∀ t id b, hOf (hl t) id = some b → ¬ b.men 7000 ∧ id ≠ 7000 ∧ id ≠ m) (hkey : ∀ t, d.has (key t))
    (KB : T → (MK → Value) → Exit → St → Prop) (hKB : ∀ t u e s', I t → KB t u e s' → poolK d sz m l hl I μ rows u t (key t) K e s')
    (body : ∀ t, I t → ∀ u : MK → Value, exec c b ⟨al (l t), hOf ((m, .mh d (conM (rows t) u) (key t) (hotO (rows t (key t)))) :: (hotL sz (rows t (key t)) ++ hl t))⟩ (KB t u)) : LoopW c b s K := by
  intro S0 a w hr
  have hP0 : PoolR c.G c.n S0 d sz m (l t0) (hl t0) (rows t0) a w := by
    obtain ⟨γ, imm, hs, hx, he, hd, ht, hn⟩ := Le.lev h0.2 _ _ _ _ _ _ hr
    have e : conM (rows t0) (fun _ => undef) = fun _ => none := by rw [hr0]; rfl
    rw [hdf] at hd
    refine ⟨fun _ => undef, γ, imm, by rw [e]; exact hs, by rw [e]; exact hx, by rw [e]; exact he, hd, ht, hn, ⟨fun k n f h => (by rw [hr0] at h; cases h), fun k k' p p' h => (by rw [hr0] at h; cases h)⟩⟩
  refine wp_loop_rel (fun mm a w => ∃ t, μ t = mm ∧ I t ∧ PoolR c.G c.n S0 d sz m (l t) (hl t) (rows t) a w) (μ t0) ⟨t0, rfl, h0.1, hP0⟩ fun mm a w ⟨t, ht, hI, hP⟩ => ?_
  obtain ⟨u, γ, imm, hs, hx, he, hd, hts, hn, hp⟩ := hP
  obtain ⟨γ1, hg, hs1, ho1⟩ := PoolR.sight (l := l t) (key t) (hkey t) hm7 (hH t) hs hp
  have hr1 : Rel c.G c.n c.df ⟨γ1, imm, hOf ((m, .mh d (conM (rows t) u) (key t) (hotO (rows t (key t)))) :: (hotL sz (rows t (key t)) ++ hl t)), w⟩ ⟨al (l t), hOf ((m, .mh d (conM (rows t) u) (key t) (hotO (rows t (key t)))) :: (hotL sz (rows t (key t)) ++ hl t))⟩ a w := by
    refine ⟨γ1, imm, hs1, Ext.refl _ _, RepE.noMen he hg (hE t), ?_, hts, hn⟩
    rw [hdf]; exact hd
  refine wpIn_mono (exec_sound hc b hok _ _ a w _ hr1 (body t hI u)) fun e a' w' he' => ?_
  obtain ⟨s', hr', hk⟩ := he'
  replace hk := hKB t u e s' hI hk
  rw [hdf] at hr'
  have hHm : ∀ t, hOf (hl t) m = none := fun t => by
    cases h : hOf (hl t) m with
    | none => rfl
    | some b => exact absurd rfl (hH t m b h).2.2
  have fin : e ≠ .normal → (∃ rows' o hot l' hl', levE s' l' ∧ levH s' ((m, .mh d (conM (rows t) u) (key t) o) :: (hot ++ hl')) ∧ hotOk sz m hl' (rows' (key t)) o hot ∧ (∀ k', k' ≠ key t → rows' k' = rows t k') ∧ hOf hl' m = none ∧ K e ⟨al l', hOf ((m, .mp d (slM rows')) :: hl')⟩) → liftE c.G c.n c.df S0 K e a' w' := fun _ ⟨rows', o, hot, l', hl', k1, k2, k3, k4, k5, k6⟩ => by
    have := PoolR.out hx hs hp hg hs1 ho1 (Le.lev ⟨k1, k2⟩ _ _ _ _ _ _ hr') k3 k4 k5
    refine ⟨_, ?_, k6⟩
    rw [hdf]; exact this.frozen k5
  cases e with
  | normal =>
    obtain ⟨t', o, hot, h1, h2, k1, k2, k3, k4⟩ := hk
    exact ⟨μ t', ht ▸ h2, t', rfl, h1, PoolR.out hx hs hp hg hs1 ho1 (Le.lev ⟨k1, k2⟩ _ _ _ _ _ _ hr') k3 k4 (hHm t')⟩
  | _ => exact fin (fun h => by cases h) hk
/-- .. where the loop is left at one place alone -/
def poolX {T : Type} (d : MD) (sz m : Nat) (l : T → List (Nat × V)) (hl : T → HL) (I : T → Prop) (μ : T → Nat) (rows : T → Rws) (e0 : Nat) (lX : List (Nat × V)) (hlX : HL) (rX : Rws) (key : T → MK) (t : T) (u : MK → Value) (e : Exit) (s' : St) : Prop := match e with
  | .normal => ∃ t' o hot, I t' ∧ μ t' < μ t ∧ levE s' (l t') ∧ levH s' ((m, .mh d (conM (rows t) u) (key t) o) :: (hot ++ hl t')) ∧ hotOk sz m (hl t') (rows t' (key t)) o hot ∧ ∀ k', k' ≠ key t → rows t' k' = rows t k'
  | .exit j => j = e0 ∧ ∃ o hot, levE s' lX ∧ levH s' ((m, .mh d (conM (rows t) u) (key t) o) :: (hot ++ hlX)) ∧ hotOk sz m hlX (rX (key t)) o hot ∧ ∀ k', k' ≠ key t → rX k' = rows t k'
  | _ => False
theorem LoopW.poolX {c : Cfg} (hc : CfgOk c) (hdf : c.df = false) {b : Code} (hok : codeOk c.an b = true) {s : St} {K : Exit → St → Prop} {T : Type} (d : MD) (sz m : Nat) (l : T → List (Nat × V)) (hl : T → HL) (I : T → Prop) (μ : T → Nat) (rows : T → Rws) (key : T → MK) (t0 : T) (e0 : Nat) (lX : List (Nat × V)) (hlX : HL) (rX : Rws)
    (h0 : I t0 ∧ levE s (l t0) ∧ levH s ((m, .mp d fun _ => none) :: hl t0)) (hr0 : rows t0 = fun _ => none) (hm7 : m ≠ 7000) (hE : ∀ t x, V.men 7000 (al (l t) x) = false) (hH : ∀ t id b, hOf (hl t) id = some b → ¬ b.men 7000 ∧ id ≠ 7000 ∧ id ≠ m) (hkey : ∀ t, d.has (key t))
    (hX : hOf hlX m = none) (hexit : K (.exit e0) ⟨al lX, hOf ((m, .mp d (slM rX)) :: hlX)⟩)
    (body : ∀ t, I t → ∀ u : MK → Value, exec c b ⟨al (l t), hOf ((m, .mh d (conM (rows t) u) (key t) (hotO (rows t (key t)))) :: (hotL sz (rows t (key t)) ++ hl t))⟩ (Abs.poolX d sz m l hl I μ rows e0 lX hlX rX key t u)) : LoopW c b s K :=
  LoopW.pool hc hdf hok d sz m l hl I μ rows key t0 h0 hr0 hm7 hE hH hkey (Abs.poolX d sz m l hl I μ rows e0 lX hlX rX key) (fun t u e s' _ h => by
    cases e with
    | normal => exact h
    | exit j =>
      obtain ⟨rfl, o, hot, h1, h2, h3, h4⟩ := h
      exact ⟨rX, o, hot, lX, hlX, h1, h2, h3, h4, hX, hexit⟩
    | _ => exact h.elim) body
end

def leapB (y : Int) : Bool := decide (y % 4 = 0 ∧ (y % 100 ≠ 0 ∨ y % 400 = 0))
def ckLeap : Ck
  | [.int .i64 y] => some (0 ≤ y ∧ y ≤ 1000000, .bool (leapB y))
  | _ => none
theorem conLeap : Con pg 121 ckLeap := by
  have hct := ctN_ok pg
  intro args q r h hq
  unfold ckLeap at h
  split at h
  · cases h
    rename_i y
    refine w121 (fun _ => false) [] rfl hct rfl rfl ?_
    push_cast (config := { maxSteps := 10000000 })
    refine ⟨hq.1, fun h => ⟨h, hq.1⟩, fun h => ⟨h, hq.1⟩, ?_⟩
    rw [Bool.eq_iff_iff]
    simp only [leapB, Bool.or_eq_true, Bool.and_eq_true, beq_iff_eq, bne_iff_ne, ne_eq, decide_eq_true_eq]
    omega
  · cases h
attribute [push_cast] ckLeap
def yearLong (y : Int) : Int := if leapB y = true then 366 else 365
def ckYearDays : Ck
  | [.int .i64 y] => some (0 ≤ y ∧ y ≤ 1000000, .int .i64 (yearLong y))
  | _ => none
theorem conYearDays : Con pg 100 ckYearDays := by
  have hct := (ctA_ok conLeap (ctN_ok _))
  intro args q r h hq
  unfold ckYearDays at h
  split at h
  · cases h
    rename_i y
    refine w100 (fun _ => false) [] rfl hct rfl rfl ?_
    push_cast (config := { maxSteps := 10000000 })
    refine ⟨hq, fun h => ?_, fun h => ?_⟩
    · unfold yearLong; rw [if_pos h]
    · unfold yearLong; rw [if_neg (by simp [h])]
  · cases h
attribute [push_cast] ckYearDays
theorem vle_i64 {a b : Int} (h : a = b) : vle (V.int .i64 a) (V.int .i64 b) := by subst h; push_cast; try trivial
def ckMonthDays : Ck
  | [.int .i64 y, .int .i64 m] => some (0 ≤ y ∧ y ≤ 1000000 ∧ 1 ≤ m ∧ m ≤ 12, .int .i64 (monthLongI y m))
  | _ => none
theorem conMonthDays : Con pg 101 ckMonthDays := by
  have hct := (ctA_ok conLeap (ctN_ok _))
  intro args q r h hq
  unfold ckMonthDays at h
  split at h
  · cases h
    rename_i y m
    refine w101 (fun _ => false) [] rfl hct rfl rfl ?_
    push_cast (config := { maxSteps := 10000000 })
    obtain ⟨q1, q2, q3, q4⟩ := hq
    refine ⟨fun h => ⟨h, q1, q2⟩, fun h => ?_, fun h => ⟨⟨by omega, by omega⟩, ?_⟩⟩
    · have := h.2
      simp only [leapB, decide_eq_true_eq] at this
      unfold monthLongI
      rw [if_neg (by omega), if_pos h.1, if_pos this]
    have hf : m = 2 → ¬ (y % 4 = 0 ∧ (y % 100 ≠ 0 ∨ y % 400 = 0)) := fun h2 => by
      have := h h2
      simpa [leapB] using this
    unfold monthLongI
    rcases (by omega : m = 1 ∨ m = 2 ∨ m = 3 ∨ m = 4 ∨ m = 5 ∨ m = 6 ∨ m = 7 ∨ m = 8 ∨ m = 9 ∨ m = 10 ∨ m = 11 ∨ m = 12) with rfl | rfl | rfl | rfl | rfl | rfl | rfl | rfl | rfl | rfl | rfl | rfl
    all_goals
      refine ⟨⟨by omega, by omega, rfl⟩, Nat.le_refl _, trivial, vle_i64 ?_⟩
      simp <;> omega
  · cases h
attribute [push_cast] ckMonthDays
def ckMonthName : Ck
  | [.int .i64 m] => some (1 ≤ m ∧ m ≤ 12, .str (mnN.getD (m - 1).toNat []))
  | _ => none
theorem conMonthName : Con pg 103 ckMonthName := by
  have hct := ctN_ok pg
  intro args q r h hq
  unfold ckMonthName at h
  split at h
  · cases h
    rename_i m
    refine w103 (fun _ => false) [] rfl hct rfl rfl ?_
    push_cast (config := { maxSteps := 10000000 })
    refine ⟨⟨by omega, by omega⟩, ⟨by omega, by omega⟩, ⟨by omega, by omega⟩, ⟨⟨by omega, by omega⟩, ⟨by omega, by omega⟩, by omega⟩, ?_⟩
    obtain ⟨q1, q2⟩ := hq
    rcases (by omega : m = 1 ∨ m = 2 ∨ m = 3 ∨ m = 4 ∨ m = 5 ∨ m = 6 ∨ m = 7 ∨ m = 8 ∨ m = 9 ∨ m = 10 ∨ m = 11 ∨ m = 12) with rfl | rfl | rfl | rfl | rfl | rfl | rfl | rfl | rfl | rfl | rfl | rfl <;> rfl
  · cases h
attribute [push_cast] ckMonthName
def twoL (n : Int) : List UInt8 := [UInt8.ofNat (48 + (n / 10 % 10)).toNat, UInt8.ofNat (48 + n % 10).toNat]
def ckTwo : Ck
  | [.int .i64 n] => some (0 ≤ n ∧ n ≤ 1000000, .str (twoL n))
  | _ => none
theorem conTwo : Con pg 102 ckTwo := by
  have hct := ctN_ok pg
  intro args q r h hq
  unfold ckTwo at h
  split at h
  · cases h
    rename_i n
    refine w102 (fun _ => false) [] rfl hct rfl rfl ?_
    push_cast (config := { maxSteps := 10000000 })
    refine ⟨⟨by omega, by omega, by omega⟩, by omega, ⟨by omega, by omega⟩, by omega, ⟨by omega, by omega⟩, ?_⟩
    unfold twoL
    rw [show (48 + n / 10 % 10) % 256 = 48 + n / 10 % 10 by omega, show (48 + n % 10) % 256 = 48 + n % 10 by omega]
  · cases h
attribute [push_cast] ckTwo

def ckBEqual : Ck
  | [.sl n f, .sl m g] => some (isBy n f ∧ isBy m g, .bool (bytesOf n f == bytesOf m g))
  | _ => none
theorem isBy.p {n : Nat} {f : Nat → V} (h : isBy n f) : ∀ i, i < n → ∃ m, f i = .int .u8 m := ByI.bytesP h
theorem conBEqual : Con pg 11 ckBEqual := by
  have hct := ctN_ok pg
  intro args q r h hq
  unfold ckBEqual at h
  split at h
  · cases h
    rename_i n f m g
    refine w11 (fun _ => false) [] rfl hct rfl rfl ?_
    push_cast (config := { maxSteps := 10000000 })
    exact ⟨hq.1.p, hq.2.p⟩
  · cases h
attribute [push_cast] ckBEqual

/-- how a thing is coded -/
structure Cod (α : Type) where
  enc : α → V
  dec : V → α
  d : α
  ok : ∀ a, dec (enc a) = a
section
variable {α : Type} (c : Cod α)
def lsF (l : List α) : Nat → V := fun i => c.enc (l.getD i c.d)
/-- f's first n are the things l -/
def LsI (n : Nat) (f : Nat → V) (l : List α) : Prop := n = l.length ∧ ∀ i, i < n → f i = lsF c l i
def lsOf (n : Nat) (f : Nat → V) : List α := (List.range n).map fun i => c.dec (f i)
def isLs (n : Nat) (f : Nat → V) : Prop := LsI c n f (lsOf c n f)
variable {c}
theorem lsOf_len (n : Nat) (f : Nat → V) : (lsOf c n f).length = n := by simp [lsOf]
theorem LsI.ls (l : List α) : LsI c l.length (lsF c l) l := ⟨rfl, fun _ _ => rfl⟩
theorem LsI.of {n : Nat} {f : Nat → V} {l : List α} (h : LsI c n f l) : lsOf c n f = l := by
  obtain ⟨rfl, h⟩ := h
  apply List.ext_getElem
  · simp [lsOf]
  · intro i h1 h2
    simp only [lsOf, List.getElem_map, List.getElem_range]
    rw [h i h2]
    unfold lsF
    rw [c.ok, List.getD_eq_getElem?_getD, List.getElem?_eq_getElem h2]; rfl
theorem LsI.is {n : Nat} {f : Nat → V} {l : List α} (h : LsI c n f l) : isLs c n f := by unfold isLs; rw [h.of]; exact h
theorem LsI.vle {n : Nat} {f : Nat → V} {l : List α} (h : LsI c n f l) : VLe (.sl n f) (.sl l.length (lsF c l)) := VLe.sl h.1 h.2
theorem isLs.vle {n : Nat} {f : Nat → V} (h : isLs c n f) : VLe (.sl n f) (.sl (lsOf c n f).length (lsF c (lsOf c n f))) := LsI.vle h
theorem isLs_ls (l : List α) : isLs c l.length (lsF c l) := (LsI.ls l).is
theorem lsOf_ls (l : List α) : lsOf c l.length (lsF c l) = l := (LsI.ls l).of
theorem LsI.app {n m k : Nat} {f g : Nat → V} {a b : List α} (h1 : LsI c n f a) (h2 : LsI c m g b) (hk : k = n + m) : LsI c k (appF n f g) (a ++ b) := by
  obtain ⟨e1, h1⟩ := h1
  obtain ⟨e2, h2⟩ := h2
  refine ⟨by simp; omega, fun i hi => ?_⟩
  unfold appF
  by_cases h : i < n
  · rw [show decide (i < n) = true from by simp [h], cond_true, h1 i h]
    unfold lsF
    rw [List.getD_eq_getElem?_getD, List.getD_eq_getElem?_getD, List.getElem?_append_left (by omega)]
  · rw [show decide (i < n) = false from by simp [h], cond_false, h2 (i - n) (by omega)]
    unfold lsF
    rw [List.getD_eq_getElem?_getD, List.getD_eq_getElem?_getD, List.getElem?_append_right (by omega), e1]
theorem LsI.one {f : Nat → V} {a : α} (h : f 0 = c.enc a) : LsI c 1 f [a] := ⟨rfl, fun i hi => by
  have : i = 0 := by omega
  subst this
  exact h⟩
theorem LsI.nil (f : Nat → V) : LsI c 0 f [] := ⟨rfl, fun i hi => by omega⟩
theorem LsI.sh {n l k : Nat} {f : Nat → V} {s : List α} (h : LsI c n f s) (hk : l + k ≤ n) : LsI c k (shF f l) ((s.drop l).take k) := by
  obtain ⟨e, h⟩ := h
  refine ⟨by simp; omega, fun i hi => ?_⟩
  unfold shF
  rw [h (i + l) (by omega)]
  unfold lsF
  rw [List.getD_eq_getElem?_getD, List.getD_eq_getElem?_getD, List.getElem?_take_of_lt hi, List.getElem?_drop, Nat.add_comm]
theorem LsI.eq {n : Nat} {f : Nat → V} {s t : List α} (h : LsI c n f s) (e : s = t) : LsI c n f t := e ▸ h
theorem LsI.len {n m : Nat} {f : Nat → V} {s : List α} (h : LsI c n f s) (e : n = m) : LsI c m f s := e ▸ h
theorem LsI.pure {n : Nat} {f : Nat → V} {s : List α} (h : LsI c n f s) (hc : ∀ a, (c.enc a).isPure = true) : ∀ i, i < n → (f i).isPure = true := fun i hi => by rw [h.2 i hi]; exact hc _
theorem LsI.flat {n m : Nat} {f : Nat → V} {s : List α} (h : LsI c n f s) (hc : ∀ a, (c.enc a).flat.length = m) : ∀ i, i < n → (f i).flat.length = m := fun i hi => by rw [h.2 i hi]; exact hc _
end
/- strings -/
def decStr : V → List UInt8
  | .str s => s
  | _ => []
def cStr : Cod (List UInt8) := ⟨.str, decStr, [], fun _ => rfl⟩
@[push_cast] theorem lsF_str (l : List (List UInt8)) (i : Nat) : lsF cStr l i = .str (l.getD i []) := rfl
/- numbers -/
def decInt : V → Int
  | .int _ n => n
  | _ => 0
def cInt : Cod Int := ⟨.int .i64, decInt, 0, fun _ => rfl⟩
@[push_cast] theorem lsF_int (l : List Int) (i : Nat) : lsF cInt l i = .int .i64 (l.getD i 0) := rfl
/- a name and a value -/
structure Hd where
  name : List UInt8
  value : List UInt8
deriving DecidableEq
def decHd : V → Hd
  | .agg [.str a, .str b] => ⟨a, b⟩
  | _ => ⟨[], []⟩
def cHd : Cod Hd := ⟨fun h => .agg [.str h.name, .str h.value], decHd, ⟨[], []⟩, fun _ => rfl⟩
@[push_cast] theorem lsF_hd (l : List Hd) (i : Nat) : lsF cHd l i = .agg [.str (l.getD i ⟨[], []⟩).name, .str (l.getD i ⟨[], []⟩).value] := rfl
/- lists, place by place -/
theorem all_at' {α : Type} {p : α → Bool} {d : α} {s : List α} (h : ∀ j, j < s.length → p (s.getD j d) = true) : s.all p = true := by
  rw [List.all_eq_true]
  intro x hx
  obtain ⟨j, hj, rfl⟩ := List.getElem_of_mem hx
  have := h j hj
  rwa [List.getD_eq_getElem?_getD, List.getElem?_eq_getElem hj] at this
theorem all_no' {α : Type} {p : α → Bool} {d : α} {s : List α} {j : Nat} (hj : j < s.length) (h : p (s.getD j d) = false) : s.all p = false := by
  rw [List.all_eq_false]
  refine ⟨s[j], List.getElem_mem hj, ?_⟩
  rw [List.getD_eq_getElem?_getD, List.getElem?_eq_getElem hj] at h
  simpa using h
theorem dropG {α : Type} {d : α} {s : List α} {i : Nat} (h : i < s.length) : s.drop i = s.getD i d :: s.drop (i + 1) := by
  rw [List.drop_eq_getElem_cons h, List.getD_eq_getElem?_getD, List.getElem?_eq_getElem h]; rfl
theorem takeG {α : Type} {d : α} {s : List α} {k : Nat} (h : k < s.length) : s.take (k + 1) = s.take k ++ [s.getD k d] := by
  rw [List.take_add_one, List.getD_eq_getElem?_getD, List.getElem?_eq_getElem h]; rfl
@[push_cast] theorem appF_z (f g : Nat → V) : appF 0 f g = g := by funext i; simp [appF]
attribute [push_cast] Nat.zero_add Nat.not_lt_zero
@[push_cast] theorem litF_zero (x : V) (l : List V) : litF (x :: l) 0 = x := rfl
@[push_cast] theorem litF_succ (x : V) (l : List V) (k : Nat) : litF (x :: l) (k + 1) = litF l k := by simp [litF]
@[push_cast] theorem ble_dec (a b : Nat) : Nat.ble a b = decide (a ≤ b) := by
  rw [Bool.eq_iff_iff, Nat.ble_eq]; simp
attribute [push_cast] lsOf_ls bytesOf_by
@[push_cast] theorem isLs_lsT {α : Type} {c : Cod α} (l : List α) : isLs c l.length (lsF c l) = True := eq_true (isLs_ls l)
@[push_cast] theorem isBy_byT (s : List UInt8) : isBy s.length (byF s) = True := eq_true (isBy_by s)
@[push_cast] theorem hd_eta (h : Hd) : (⟨h.name, h.value⟩ : Hd) = h := rfl
@[push_cast] theorem kill_by (d : Nat) (s : List UInt8) (i : Nat) : V.kill d (byF s i) = byF s i := rfl
@[push_cast] theorem frz_by (d z n : Nat) (f : Nat → V) (s : List UInt8) (i : Nat) : frzV d z n f (byF s i) = byF s i := rfl
@[push_cast] theorem pure_by (s : List UInt8) (i : Nat) : (byF s i).isPure = true := rfl
@[push_cast] theorem ren_by (a b : Nat) (s : List UInt8) (i : Nat) : V.ren a b (byF s i) = byF s i := rfl
@[push_cast] theorem beq_dec (a b : Nat) : Nat.beq a b = decide (a = b) := by
  rw [Bool.eq_iff_iff]; simp

/-- a value that stands for a coded thing -/
def isC {α : Type} (c : Cod α) (x : V) : Prop := VLe x (c.enc (c.dec x))
theorem isC_enc {α : Type} (c : Cod α) (a : α) : isC c (c.enc a) := by unfold isC; rw [c.ok]; exact VLe.refl _
/-- strings of heads are not long -/
def hdsOk (l : List Hd) : Prop := ∀ h ∈ l, h.name.length ≤ 140737488355328 ∧ h.value.length ≤ 140737488355328
theorem hdsOk_at {l : List Hd} (h : hdsOk l) {i : Nat} (hi : i < l.length) : (l.getD i ⟨[], []⟩).name.length ≤ 140737488355328 ∧ (l.getD i ⟨[], []⟩).value.length ≤ 140737488355328 := by
  rw [List.getD_eq_getElem?_getD, List.getElem?_eq_getElem hi]; exact h _ (List.getElem_mem hi)
@[push_cast] theorem lsF_hdfl (l : List Hd) (i : Nat) : (lsF cHd l i).flat = [.str (l.getD i ⟨[], []⟩).name, .str (l.getD i ⟨[], []⟩).value] := rfl
/-- an answer -/
structure Ans where
  st : Int
  re : List UInt8
  hd : List Hd
  bd : List UInt8
deriving DecidableEq
def decAns : V → Ans
  | .agg [.int _ st, .str re, .sl n f, .sl m g] => ⟨st, re, lsOf cHd n f, bytesOf m g⟩
  | _ => ⟨0, [], [], []⟩
def cAns : Cod Ans := ⟨fun a => .agg [.int .i64 a.st, .str a.re, .sl a.hd.length (lsF cHd a.hd), .sl a.bd.length (byF a.bd)], decAns, ⟨0, [], [], []⟩, fun a => by simp [decAns, lsOf_ls, bytesOf_by]⟩
@[push_cast] theorem enc_ans (a : Ans) : cAns.enc a = .agg [.int .i64 a.st, .str a.re, .sl a.hd.length (lsF cHd a.hd), .sl a.bd.length (byF a.bd)] := rfl
@[push_cast] theorem dec_ans (k : IntKind) (st : Int) (re : List UInt8) (n m : Nat) (f g : Nat → V) : cAns.dec (.agg [.int k st, .str re, .sl n f, .sl m g]) = ⟨st, re, lsOf cHd n f, bytesOf m g⟩ := rfl
theorem isC_ans {st : Int} {re : List UInt8} {n m : Nat} {f g : Nat → V} (h1 : isLs cHd n f) (h2 : isBy m g) : isC cAns (.agg [.int .i64 st, .str re, .sl n f, .sl m g]) :=
  VLe.agg ⟨VLe.refl _, VLe.refl _, isLs.vle h1, isBy.vle h2, trivial⟩
def ansOk (a : Ans) : Prop := hdsOk a.hd ∧ a.re.length ≤ 140737488355328 ∧ a.hd.length ≤ 140737488355328 ∧ a.bd.length ≤ 140737488355328
theorem reach_le : reachBytes ≤ 140737488355328 := by unfold reachBytes; omega
theorem hasL_cons {s : Sh} {ss : List Sh} {ms : List Nat} {vs : List V} (h : Sh.hasL (s :: ss) ms vs) : ∃ m v ms' vs', vs = v :: vs' ∧ s.has m v ∧ Sh.hasL ss ms' vs' := by
  cases ms with
  | nil => simp [Sh.hasL] at h
  | cons m ms => cases vs with
    | nil => simp [Sh.hasL] at h
    | cons v vs => exact ⟨m, v, ms, vs, rfl, h.1, h.2⟩
theorem hasL_nil {ms : List Nat} {vs : List V} (h : Sh.hasL [] ms vs) : vs = [] := by
  cases ms with
  | nil => cases vs with
    | nil => rfl
    | cons _ _ => simp [Sh.hasL] at h
  | cons _ _ => simp [Sh.hasL] at h
theorem shHead {m : Nat} {v : V} (h : Sh.has (.tup [.str, .str]) m v) : ∃ a, v = cHd.enc a ∧ a.name.length ≤ 140737488355328 ∧ a.value.length ≤ 140737488355328 := by
  obtain ⟨l, ms, rfl, -, hl⟩ := h
  obtain ⟨m1, v1, ms, l, rfl, h1, hl⟩ := hasL_cons hl
  obtain ⟨m2, v2, ms, l, rfl, h2, hl⟩ := hasL_cons hl
  obtain rfl := hasL_nil hl
  obtain ⟨s, rfl, -, b1⟩ := h1
  obtain ⟨t, rfl, -, b2⟩ := h2
  have := reach_le
  exact ⟨⟨s, t⟩, rfl, by show s.length ≤ _; omega, by show t.length ≤ _; omega⟩
theorem shList {α : Type} {c : Cod α} {s : Sh} {p : α → Prop} (hs : ∀ m v, s.has m v → ∃ a, v = c.enc a ∧ p a) {m : Nat} {v : V} (h : Sh.has (.list s) m v) : ∃ (n : Nat) (f : Nat → V), v = .sl n f ∧ isLs c n f ∧ n ≤ 140737488355328 ∧ ∀ a ∈ lsOf c n f, p a := by
  obtain ⟨l, ms, rfl, h1, h2, h3, h4⟩ := h
  have at' : ∀ i, i < l.length → ∃ a, litF l i = c.enc a ∧ p a := fun i hi => hs _ _ (h4 i hi)
  have := reach_le
  refine ⟨_, _, rfl, ⟨by simp [lsOf], fun i hi => ?_⟩, by omega, fun a ha => ?_⟩
  · obtain ⟨a, e, _⟩ := at' i hi
    unfold lsF lsOf
    rw [List.getD_eq_getElem?_getD, List.getElem?_map, List.getElem?_range hi]
    simp only [Option.map_some, Option.getD_some]
    rw [e, c.ok]
  · simp only [lsOf, List.mem_map, List.mem_range] at ha
    obtain ⟨i, hi, rfl⟩ := ha
    obtain ⟨a, e, hp⟩ := at' i hi
    rw [e, c.ok]; exact hp
theorem shStr {m : Nat} {v : V} (h : Sh.has .str m v) : ∃ a, v = cStr.enc a ∧ a.length ≤ 140737488355328 := by
  obtain ⟨s, rfl, -, b⟩ := h
  have := reach_le
  exact ⟨s, rfl, by omega⟩
theorem shAns {m : Nat} {v : V} (h : Sh.has (.tup [.int .i64, .str, .list (.tup [.str, .str]), .list (.int .u8)]) m v) : isC cAns v ∧ ansOk (cAns.dec v) := by
  obtain ⟨l, ms, rfl, -, hl⟩ := h
  obtain ⟨m1, v1, ms, l, rfl, h1, hl⟩ := hasL_cons hl
  obtain ⟨m2, v2, ms, l, rfl, h2, hl⟩ := hasL_cons hl
  obtain ⟨m3, v3, ms, l, rfl, h3, hl⟩ := hasL_cons hl
  obtain ⟨m4, v4, ms, l, rfl, h4, hl⟩ := hasL_cons hl
  obtain rfl := hasL_nil hl
  obtain ⟨st, rfl, _⟩ := shInt h1
  obtain ⟨re, rfl, b2⟩ := shStr h2
  obtain ⟨n, f, rfl, i3, b3, k3⟩ := shList (c := cHd) (fun m v h => shHead h) h3
  obtain ⟨k, g, rfl, i4, b4⟩ := shBytes h4
  have := reach_le
  refine ⟨isC_ans i3 i4, ?_⟩
  show ansOk ⟨st, re, lsOf cHd n f, bytesOf k g⟩
  refine ⟨k3, b2, ?_, ?_⟩
  · show (lsOf cHd n f).length ≤ _
    rw [lsOf_len]; exact b3
  · show (bytesOf k g).length ≤ _
    rw [bytesOf_len]; omega
theorem hasD2 {H : Type} {s1 s2 : Sh} {ds : List (DataW H)} (h : hasD [s1, s2] ds) : ∃ a b, ds = [a, b] ∧ s1.has (bulkD a) (toV a) ∧ s2.has (bulkD b) (toV b) := by
  match ds, h with
  | [a, b], ⟨h1, h2, _⟩ => exact ⟨a, b, rfl, h1, h2⟩
theorem hasD1 {H : Type} {s1 : Sh} {ds : List (DataW H)} (h : hasD [s1] ds) : ∃ a, ds = [a] ∧ s1.has (bulkD a) (toV a) := by
  match ds, h with
  | [a], ⟨h1, _⟩ => exact ⟨a, rfl, h1⟩
theorem hasD4 {H : Type} {s1 s2 s3 s4 : Sh} {ds : List (DataW H)} (h : hasD [s1, s2, s3, s4] ds) : ∃ a b c d, ds = [a, b, c, d] ∧ s1.has (bulkD a) (toV a) ∧ s2.has (bulkD b) (toV b) ∧ s3.has (bulkD c) (toV c) ∧ s4.has (bulkD d) (toV d) := by
  match ds, h with
  | [a, b, c, d], ⟨h1, h2, h3, h4, _⟩ => exact ⟨a, b, c, d, rfl, h1, h2, h3, h4⟩
@[push_cast] theorem isC_ansT (a : Ans) : isC cAns (.agg [.int .i64 a.st, .str a.re, .sl a.hd.length (lsF cHd a.hd), .sl a.bd.length (byF a.bd)]) = True := eq_true (isC_enc cAns a)
@[push_cast] theorem ans_eta (a : Ans) : (⟨a.st, a.re, a.hd, a.bd⟩ : Ans) = a := rfl

end Go.Abs
