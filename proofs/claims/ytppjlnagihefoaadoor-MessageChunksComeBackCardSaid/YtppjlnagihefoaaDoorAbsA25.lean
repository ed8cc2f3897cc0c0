import Derived.Test.YtppjlnagihefoaaDoorAbsA24
namespace Go.Abs
open Go
variable {G : PG}

/-- what one operation of a region did -/
structure Rec where
  dst : Option Nat
  looks : List Nat
  ids : List Nat
  v : V
  hw : Option (Nat × Blk)
  nw : Option Nat
def setHw (h : Heap) : Option (Nat × Blk) → Heap
  | some (i, b) => upd h i (some b)
  | none => h
def over (r : Rec) (s : St) : St := St.put ⟨s.env, setHw s.heap r.hw⟩ r.dst r.v
mutual
def vecId : V → List Nat
  | .vec i _ => [i]
  | .agg cs => vecIds cs
  | _ => []
def vecIds : List V → List Nat
  | [] => []
  | v :: r => vecId v ++ vecIds r
end
def alwR (c : Cfg) (dst : Option Nat) (lk : List Nat) (s : St) (K : Rec → Prop) : OR → Prop
  | .val p v => p ∧ K ⟨dst, lk, [], v, none, none⟩
  | .rd i p v => p ∧ K ⟨dst, lk, [i], v, none, none⟩
  | .wr l i p v b => p ∧ K ⟨dst, lk, i :: l, v, some (i, b), none⟩
  | .new p v b => p ∧ K ⟨dst, lk, [], v, some (dOf dst, b.kill (dOf dst)), some (dOf dst)⟩
  | .call p f args => p ∧ match c.ct f (args.map (bor s.heap)) with
    | some (q, r) => q ∧ lent s.heap args r ∧ K ⟨dst, lk, vecIds args, r, none, none⟩
    | none => False
  | .bad => False
def gdoR (c : Cfg) (dst : Option Nat) (lk : List Nat) (s : St) (K : Rec → Prop) (g : Bool) : OR → Prop
  | .val p v => (g = true → p) ∧ K ⟨dst, lk, [], .opt g v, none, none⟩
  | .rd i p v => (g = true → p) ∧ K ⟨dst, lk, [i], .opt g v, none, none⟩
  | .wr l i p v b => (g = true → alwR c dst lk s K (.wr l i p v b)) ∧ (g = false → K ⟨dst, lk, i :: l, .any, none, none⟩)
  | .new p v b => (g = true → alwR c dst lk s K (.new p v b)) ∧ (g = false → K ⟨dst, lk, [], .any, none, none⟩)
  | .call p f args => match c.ct f (args.map (bor s.heap)) with
    | some (q, r) => (g = true → p ∧ q ∧ lent s.heap args r) ∧ K ⟨dst, lk, vecIds args, .opt g r, none, none⟩
    | none => False
  | .bad => False
def gDst (ops : List Oper) : Option (Nat × Bool) → List Nat
  | some (j, _) => (dstOf ops j).toList
  | none => []
def lkOf (ops : List Oper) (o : Oper) : List Nat := (o.op.operands.toList.filterMap fun | .tmp t => some t | _ => none) ++ gDst ops o.guard
def oneR (c : Cfg) (ops : List Oper) (s : St) (o : Oper) (K : Rec → Prop) : Prop :=
  inN c.n o.dst ∧ match gst s.env ops o.guard with
  | .always => alwR c o.dst (lkOf ops o) s K (opO c.P c.ow (dOf o.dst) s.heap s.env o.op)
  | .ifb g => gdoR c o.dst (lkOf ops o) s K g (opO c.P c.ow (dOf o.dst) s.heap s.env o.op)
  | .bad => False

/-- nothing names d -/
def BN (d : Nat) : Blk → Prop
  | .cells cs => V.menL d cs = false
  | .vec _ _ f => ∀ i, V.men d (f i) = false
structure NoMen (d : Nat) (s : St) : Prop where
  env : ∀ t, V.men d (s.env t) = false
  no : s.heap d = none
  heap : ∀ id b, s.heap id = some b → BN d b
theorem kill_same (d : Nat) (x : V) : V.men d x = false → V.kill d x = x := by
  refine V.rec (motive_1 := fun x => V.men d x = false → V.kill d x = x) (motive_2 := fun l => V.menL d l = false → V.killL d l = l)
    ?_ ?_ ?_ ?_ ?_ ?_ ?_ ?_ ?_ ?_ ?_ ?_ ?_ ?_ ?_ ?_ ?_ ?_ ?_ x
  all_goals intros
  all_goals first
    | (simp only [V.kill, V.killL]; done)
    | (simp_all [V.kill, V.killL, V.men, V.menL]; done)
    | (rename_i h; simp only [V.men] at h; simp only [V.kill, h, cond_false])
theorem killL_same (d : Nat) (l : List V) (h : V.menL d l = false) : V.killL d l = l := by
  induction l with
  | nil => rfl
  | cons x l ih =>
    simp only [V.menL, Bool.or_eq_false_iff] at h
    simp only [V.killL, kill_same d x h.1, ih h.2]
theorem killB_same {d : Nat} {b : Blk} (h : BN d b) : b.kill d = b := by
  cases b with
  | cells cs => simp only [Blk.kill, killL_same d cs h]
  | vec sz n f => simp only [Blk.kill]; congr 1; funext i; exact kill_same d _ (h i)
theorem NoMen.killE {d : Nat} {s : St} (h : NoMen d s) : Abs.killE d s.env = s.env := by funext t; exact kill_same d _ (h.env t)
theorem NoMen.killH {d : Nat} {s : St} (h : NoMen d s) : Abs.killH d s.heap = s.heap := by
  funext id
  unfold Abs.killH
  split
  · rename_i e; subst e; exact h.no.symm
  · cases hb : s.heap id with
    | none => rfl
    | some b => simp only [Option.map_some, killB_same (h.heap id b hb)]

def Agree (r : Rec) (s s' : St) : Prop := (∀ t ∈ r.looks, s'.env t = s.env t) ∧ (∀ id ∈ r.ids, s'.heap id = s.heap id) ∧ ∀ d, r.nw = some d → NoMen d s'

mutual
theorem bor_congr1 {H H' : Heap} : (x : V) → (∀ id ∈ vecId x, H' id = H id) → bor H' x = bor H x ∧ (borP H x → borP H' x)
  | .vec id n, h => by
    have hh := h id (by simp [vecId])
    refine ⟨by simp only [bor, hh], fun p => ?_⟩
    simp only [borP, hh] at p ⊢
    exact p
  | .agg cs, h => by
    obtain ⟨h1, h2⟩ := bor_congrL cs (fun id hid => h id (by simpa [vecId] using hid))
    exact ⟨by simp only [bor, h1], fun p => by simp only [borP] at p ⊢; exact h2 p⟩
  | .any, _ => ⟨by simp only [bor], fun _ => by simp [borP]⟩
  | .int _ _, _ => ⟨by simp only [bor], fun _ => by simp [borP]⟩
  | .bool _, _ => ⟨by simp only [bor], fun _ => by simp [borP]⟩
  | .str _, _ => ⟨by simp only [bor], fun _ => by simp [borP]⟩
  | .con _, _ => ⟨by simp only [bor], fun _ => by simp [borP]⟩
  | .nilsl, _ => ⟨by simp only [bor], fun _ => by simp [borP]⟩
  | .tup _, _ => ⟨by simp only [bor], fun _ => by simp [borP]⟩
  | .sl _ _, _ => ⟨by simp only [bor], fun _ => by simp [borP]⟩
  | .iptr _, _ => ⟨by simp only [bor], fun _ => by simp [borP]⟩
  | .ptr _ _, _ => ⟨by simp only [bor], fun _ => by simp [borP]⟩
  | .eptr _ _ _ _ _, _ => ⟨by simp only [bor], fun _ => by simp [borP]⟩
  | .fn _ _ _, _ => ⟨by simp only [bor], fun _ => by simp [borP]⟩
  | .vw _ _ _, _ => ⟨by simp only [bor], fun _ => by simp [borP]⟩
  | .map _, _ => ⟨by simp only [bor], fun _ => by simp [borP]⟩
  | .opt _ _, _ => ⟨by simp only [bor], fun _ => by simp [borP]⟩
theorem bor_congrL {H H' : Heap} : (l : List V) → (∀ id ∈ vecIds l, H' id = H id) → borL H' l = borL H l ∧ (borPL H l → borPL H' l)
  | [], _ => ⟨rfl, id⟩
  | x :: l, h => by
    obtain ⟨a1, a2⟩ := bor_congr1 x (fun id hid => h id (by simp [vecIds, hid]))
    obtain ⟨b1, b2⟩ := bor_congrL l (fun id hid => h id (by simp [vecIds, hid]))
    exact ⟨by simp only [borL, a1, b1], fun ⟨p, q⟩ => ⟨a2 p, b2 q⟩⟩
end
theorem bor_congr {args : List V} {H H' : Heap} (h : ∀ id ∈ vecIds args, H' id = H id) : args.map (bor H') = args.map (bor H) ∧ (borPL H args → borPL H' args) := by
  rw [← borL_map, ← borL_map]
  exact bor_congrL args h
theorem lent_congr {args : List V} {H H' : Heap} {r : V} (h : ∀ id ∈ vecIds args, H' id = H id) (hl : lent H args r) : lent H' args r := by
  unfold lent at *
  split <;> rename_i e <;> rw [e] at hl
  · exact ⟨(bor_congr h).2 hl.1, hl.2⟩
  · exact hl

def Local (c : Cfg) (ops : List Oper) (s : St) (o : Oper) (r : Rec) : Prop :=
  r.dst = o.dst ∧ r.looks = lkOf ops o ∧ ∀ s', Agree r s s' → ∀ K : St → Prop, K (over r s') → oneOp c ops s' o K

theorem opR_same {c : Cfg} {ops : List Oper} {s s' : St} {o : Oper} (hlk : ∀ t ∈ lkOf ops o, s'.env t = s.env t) (hid : ∀ id ∈ (opO c.P c.ow (dOf o.dst) s.heap s.env o.op).ids, s'.heap id = s.heap id)
    (hb : (opO c.P c.ow (dOf o.dst) s.heap s.env o.op).isBad = false) : opO c.P c.ow (dOf o.dst) s'.heap s'.env o.op = opO c.P c.ow (dOf o.dst) s.heap s.env o.op := by
  have h1 : opO c.P c.ow (dOf o.dst) s'.heap s'.env o.op = opO c.P c.ow (dOf o.dst) s'.heap s.env o.op := by
    refine op_congr c.ow (dOf o.dst) s'.heap o.op fun t ht => hlk t ?_
    exact List.mem_append_left _ (List.mem_filterMap.2 ⟨.tmp t, by simpa using ht, rfl⟩)
  rw [h1]
  exact cong_op c.ow _ _ _ s.heap s'.heap hid hb
theorem gst_same {ops : List Oper} {s s' : St} {o : Oper} (hlk : ∀ t ∈ lkOf ops o, s'.env t = s.env t) : gst s'.env ops o.guard = gst s.env ops o.guard := by
  unfold lkOf at hlk
  cases hg : o.guard with
  | none => rfl
  | some p =>
    obtain ⟨j, want⟩ := p
    rw [hg] at hlk
    simp only [gst]
    cases hd : dstOf ops j with
    | none => rfl
    | some d =>
      simp only
      rw [hlk d (List.mem_append_right _ (by simp [gDst, hd]))]

theorem alwR_local {c : Cfg} {ops : List Oper} {s : St} {o : Oper} {K : Rec → Prop} (R : OR) (hR : opO c.P c.ow (dOf o.dst) s.heap s.env o.op = R) (h : alwR c o.dst (lkOf ops o) s K R) :
    ∃ r, K r ∧ r.dst = o.dst ∧ r.looks = lkOf ops o ∧ ∀ s', Agree r s s' → ∀ K : St → Prop, K (over r s') → alw c o.dst s' K (opO c.P c.ow (dOf o.dst) s'.heap s'.env o.op) := by
  cases R with
  | val p v =>
    refine ⟨_, h.2, rfl, rfl, fun s' ha K hK => ?_⟩
    rw [opR_same ha.1 (by rw [hR]; simp [OR.ids]) (by rw [hR]; rfl), hR]
    exact ⟨h.1, hK⟩
  | rd i p v =>
    refine ⟨_, h.2, rfl, rfl, fun s' ha K hK => ?_⟩
    rw [opR_same ha.1 (by rw [hR]; exact ha.2.1) (by rw [hR]; rfl), hR]
    exact ⟨h.1, hK⟩
  | wr l i p v b =>
    refine ⟨_, h.2, rfl, rfl, fun s' ha K hK => ?_⟩
    rw [opR_same ha.1 (by rw [hR]; exact ha.2.1) (by rw [hR]; rfl), hR]
    exact ⟨h.1, hK⟩
  | new p v b =>
    refine ⟨_, h.2, rfl, rfl, fun s' ha K hK => ?_⟩
    rw [opR_same ha.1 (by rw [hR]; simp [OR.ids]) (by rw [hR]; rfl), hR]
    have hn := ha.2.2 _ rfl
    refine ⟨h.1, ?_⟩
    rw [hn.killE, hn.killH]
    exact hK
  | call p f args =>
    obtain ⟨hp, hk⟩ := h
    cases hct : c.ct f (args.map (bor s.heap)) with
    | none => rw [hct] at hk; exact hk.elim
    | some qr =>
      obtain ⟨q, r⟩ := qr
      rw [hct] at hk
      refine ⟨_, hk.2.2, rfl, rfl, fun s' ha K hK => ?_⟩
      rw [opR_same ha.1 (by rw [hR]; simp [OR.ids]) (by rw [hR]; rfl), hR]
      refine ⟨hp, ?_⟩
      rw [(bor_congr ha.2.1).1, hct]
      exact ⟨hk.1, lent_congr ha.2.1 hk.2.1, hK⟩
  | bad => exact h.elim
theorem gdoR_local {c : Cfg} {ops : List Oper} {s : St} {o : Oper} {K : Rec → Prop} {g : Bool} (R : OR) (hR : opO c.P c.ow (dOf o.dst) s.heap s.env o.op = R) (h : gdoR c o.dst (lkOf ops o) s K g R) :
    ∃ r, K r ∧ r.dst = o.dst ∧ r.looks = lkOf ops o ∧ ∀ s', Agree r s s' → ∀ K : St → Prop, K (over r s') → gdo c o.dst s' K g (opO c.P c.ow (dOf o.dst) s'.heap s'.env o.op) := by
  cases R with
  | val p v =>
    refine ⟨_, h.2, rfl, rfl, fun s' ha K hK => ?_⟩
    rw [opR_same ha.1 (by rw [hR]; simp [OR.ids]) (by rw [hR]; rfl), hR]
    exact ⟨h.1, hK⟩
  | rd i p v =>
    refine ⟨_, h.2, rfl, rfl, fun s' ha K hK => ?_⟩
    rw [opR_same ha.1 (by rw [hR]; exact ha.2.1) (by rw [hR]; rfl), hR]
    exact ⟨h.1, hK⟩
  | wr l i p v b =>
    have hs : ∀ s' : St, (∀ t ∈ lkOf ops o, s'.env t = s.env t) → (∀ id ∈ i :: l, s'.heap id = s.heap id) → opO c.P c.ow (dOf o.dst) s'.heap s'.env o.op = .wr l i p v b := fun s' h1 h2 => by
      rw [opR_same h1 (by rw [hR]; exact h2) (by rw [hR]; rfl), hR]
    cases g with
    | true =>
      obtain ⟨hp, hk⟩ := h.1 rfl
      refine ⟨_, hk, rfl, rfl, fun s' ha K hK => ?_⟩
      rw [hs s' ha.1 ha.2.1]
      exact ⟨fun _ => ⟨hp, hK⟩, fun e => by cases e⟩
    | false =>
      refine ⟨_, h.2 rfl, rfl, rfl, fun s' ha K hK => ?_⟩
      rw [hs s' ha.1 ha.2.1]
      exact ⟨fun e => (by cases e), fun _ => hK⟩
  | new p v b =>
    have hs : ∀ s' : St, (∀ t ∈ lkOf ops o, s'.env t = s.env t) → opO c.P c.ow (dOf o.dst) s'.heap s'.env o.op = .new p v b := fun s' h1 => by
      rw [opR_same h1 (by rw [hR]; simp [OR.ids]) (by rw [hR]; rfl), hR]
    cases g with
    | true =>
      obtain ⟨hp, hk⟩ := h.1 rfl
      refine ⟨_, hk, rfl, rfl, fun s' ha K hK => ?_⟩
      rw [hs s' ha.1]
      have hn := ha.2.2 _ rfl
      refine ⟨fun _ => ⟨hp, ?_⟩, fun e => by cases e⟩
      rw [hn.killE, hn.killH]
      exact hK
    | false =>
      refine ⟨_, h.2 rfl, rfl, rfl, fun s' ha K hK => ?_⟩
      rw [hs s' ha.1]
      exact ⟨fun e => (by cases e), fun _ => hK⟩
  | call p f args =>
    simp only [gdoR] at h
    cases hct : c.ct f (args.map (bor s.heap)) with
    | none => rw [hct] at h; exact h.elim
    | some qr =>
      obtain ⟨q, r⟩ := qr
      rw [hct] at h
      refine ⟨_, h.2, rfl, rfl, fun s' ha K hK => ?_⟩
      rw [opR_same ha.1 (by rw [hR]; simp [OR.ids]) (by rw [hR]; rfl), hR]
      simp only [gdo]
      rw [(bor_congr ha.2.1).1, hct]
      exact ⟨fun e => ⟨(h.1 e).1, (h.1 e).2.1, lent_congr ha.2.1 (h.1 e).2.2⟩, hK⟩
  | bad => exact h.elim
theorem oneR_local {c : Cfg} {ops : List Oper} {s : St} {o : Oper} {K : Rec → Prop} (h : oneR c ops s o K) : ∃ r, K r ∧ Local c ops s o r := by
  obtain ⟨hn, h⟩ := h
  cases hg : gst s.env ops o.guard with
  | always =>
    rw [hg] at h
    obtain ⟨r, h1, h2, h3, h4⟩ := alwR_local _ rfl h
    refine ⟨r, h1, h2, h3, fun s' ha K hK => ⟨hn, ?_⟩⟩
    rw [gst_same (h3 ▸ ha.1), hg]
    exact h4 s' ha K hK
  | ifb g =>
    rw [hg] at h
    obtain ⟨r, h1, h2, h3, h4⟩ := gdoR_local _ rfl h
    refine ⟨r, h1, h2, h3, fun s' ha K hK => ⟨hn, ?_⟩⟩
    rw [gst_same (h3 ▸ ha.1), hg]
    exact h4 s' ha K hK
  | bad => rw [hg] at h; exact h.elim

/-- the operations one after the other, with the record of what they do -/
def recRun (c : Cfg) (all : List Oper) : List Oper → St → List Rec → (List Rec → St → Prop) → Prop
  | [], s, acc, K => K acc s
  | o :: r, s, acc, K => oneR c all s o fun x => recRun c all r (over x s) (acc ++ [x]) K

/-- what is there behind the operations that L lists, done in the text's order -/
def mrg : List Rec → Nat → (Nat → Bool) → St → St
  | [], _, _, s => s
  | r :: rs, k, L, s => mrg rs (k + 1) L (bif L k then over r s else s)
theorem recRun_facts {c : Cfg} {all : List Oper} {K : List Rec → St → Prop} : ∀ (l : List Oper) (s : St) (acc : List Rec), recRun c all l s acc K →
    ∃ rs, rs.length = l.length ∧ K (acc ++ rs) (mrg rs 0 (fun _ => true) s) ∧ ∀ (k : Nat) (o : Oper) (r : Rec), l[k]? = some o → rs[k]? = some r → Local c all (mrg rs 0 (fun i => decide (i < k)) s) o r := by
  intro l
  induction l with
  | nil => intro s acc h; exact ⟨[], rfl, by simpa [recRun, mrg] using h, fun k o r h => by simp at h⟩
  | cons o l ih =>
    intro s acc h
    obtain ⟨x, h, hx⟩ := oneR_local h
    obtain ⟨rs, h1, h2, h3⟩ := ih _ _ h
    have sh : ∀ (rs : List Rec) (L : Nat → Bool) (k : Nat) (s : St), mrg rs (k + 1) L s = mrg rs k (fun i => L (i + 1)) s := by
      intro rs L
      induction rs with
      | nil => intro k s; rfl
      | cons r rs ih => intro k s; simp only [mrg]; exact ih _ _
    refine ⟨x :: rs, by simp [h1], ?_, fun k o' r ho hr => ?_⟩
    · simp only [mrg, cond_true]
      rw [sh]
      simpa using h2
    · cases k with
      | zero =>
        simp only [List.getElem?_cons_zero, Option.some.injEq] at ho hr
        subst ho; subst hr
        have : ∀ (rs : List Rec) (k : Nat) (s : St), mrg rs k (fun i => decide (i < 0)) s = s := by
          intro rs
          induction rs with
          | nil => intro k s; rfl
          | cons r rs ih => intro k s; simp only [mrg, Nat.not_lt_zero, decide_false, cond_false]; exact ih _ _
        rw [this]; exact hx
      | succ k =>
        simp only [List.getElem?_cons_succ] at ho hr
        have := h3 k o' r ho hr
        simp only [mrg, Nat.zero_lt_succ, decide_true, cond_true]
        rw [sh]
        simpa using this
end Go.Abs
