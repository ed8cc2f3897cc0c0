import Derived.Test.YtppjlnagihefoaaDoorAbsA37
namespace Go.Abs
open Go
variable {G : PG}

/- drawn regions, evaluated -/
section
variable (c : Cfg) (all r : List Oper) (o : Oper) (s : St) (acc : List Rec) (e : Env) (h : Heap) (l : List (Nat × V)) (hl : HL) (v : V) (dst : Option Nat) (lk ids : List Nat) (p : Prop) (g : Bool) (i : Nat) (li : List Nat) (b : Blk) (A : List Nat) (j w : Nat) (nw : Option Nat) (rs : List Rec) (ds : List Nat)
def finK (A : List Nat) (ds : List Nat) (s0 : St) (K : St → Prop) : List Rec → St → Prop := fun rs s' => dynE A rs rs 0 ∧ nwE ds s0 rs ∧ K s'
@[push_cast] theorem finK_at (s0 : St) (K : St → Prop) : finK A ds s0 K rs s = (dynE A rs rs 0 ∧ nwE ds s0 rs ∧ K s) := rfl
@[push_cast] theorem anyRun_fin (K : St → Prop) : anyRun A c all s K = recRun c all all (preL (cands all) s) [] (finK A (cands all) s K) := rfl
def recK (K : List Rec → St → Prop) : Rec → Prop := fun x => recRun c all r (over x s) (acc ++ [x]) K
@[push_cast] theorem recK_at (K : List Rec → St → Prop) (x : Rec) : recK c all r s acc K x = recRun c all r (over x s) (acc ++ [x]) K := rfl
@[push_cast] theorem recRun_nil (K : List Rec → St → Prop) : recRun c all [] s acc K = K acc s := rfl
@[push_cast] theorem recRun_cons (K : List Rec → St → Prop) : recRun c all (o :: r) s acc K = oneR c all s o (recK c all r s acc K) := rfl
def selR (dst : Option Nat) (lk : List Nat) (s : St) (K : Rec → Prop) : GS → OR → Prop
  | .always, R => alwR c dst lk s K R
  | .ifb g, R => gdoR c dst lk s K g R
  | .bad, _ => False
attribute [push_cast] selR
@[push_cast] theorem oneR_mk (op : Op) (t : TypeId) (q : String) (af : Array Edge) (g : Option (Nat × Bool)) (K : Rec → Prop) : oneR c all s ⟨dst, op, t, q, af, g⟩ K = (inN c.n dst ∧ selR c dst (lkOf all ⟨dst, op, t, q, af, g⟩) s K (gst s.env all g) (opO c.P c.ow (dOf dst) s.heap s.env op)) := by
  unfold oneR selR
  simp only
  cases gst s.env all g <;> rfl
def ctR (dst : Option Nat) (lk : List Nat) (s : St) (K : Rec → Prop) (args : List V) : Option (Prop × V) → Prop
  | some (q, r) => q ∧ lent s.heap args r ∧ K ⟨dst, lk, vecIds args, r, none, none⟩
  | none => False
def ctRG (dst : Option Nat) (lk : List Nat) (s : St) (K : Rec → Prop) (g : Bool) (p : Prop) (args : List V) : Option (Prop × V) → Prop
  | some (q, r) => (g = true → p ∧ q ∧ lent s.heap args r) ∧ K ⟨dst, lk, vecIds args, .opt g r, none, none⟩
  | none => False
attribute [push_cast] ctR ctRG vecIds vecId
variable (K : Rec → Prop)
@[push_cast] theorem alwR_val : alwR c dst lk s K (.val p v) = (p ∧ K ⟨dst, lk, [], v, none, none⟩) := rfl
@[push_cast] theorem alwR_rd : alwR c dst lk s K (.rd i p v) = (p ∧ K ⟨dst, lk, [i], v, none, none⟩) := rfl
@[push_cast] theorem alwR_wr : alwR c dst lk s K (.wr li i p v b) = (p ∧ K ⟨dst, lk, i :: li, v, some (i, b), none⟩) := rfl
@[push_cast] theorem alwR_new : alwR c dst lk s K (.new p v b) = (p ∧ K ⟨dst, lk, [], v, some (dOf dst, b.kill (dOf dst)), some (dOf dst)⟩) := rfl
@[push_cast] theorem alwR_call (f : FuncId) (args : List V) : alwR c dst lk s K (.call p f args) = (p ∧ ctR dst lk s K args (c.ct f (args.map (bor s.heap)))) := by
  simp only [alwR]
  cases c.ct f (args.map (bor s.heap)) with
  | none => rfl
  | some x => rfl
@[push_cast] theorem alwR_bad : alwR c dst lk s K .bad = False := rfl
@[push_cast] theorem gdoR_val : gdoR c dst lk s K g (.val p v) = ((g = true → p) ∧ K ⟨dst, lk, [], .opt g v, none, none⟩) := rfl
@[push_cast] theorem gdoR_rd : gdoR c dst lk s K g (.rd i p v) = ((g = true → p) ∧ K ⟨dst, lk, [i], .opt g v, none, none⟩) := rfl
@[push_cast] theorem gdoR_wr : gdoR c dst lk s K g (.wr li i p v b) = ((g = true → p ∧ K ⟨dst, lk, i :: li, v, some (i, b), none⟩) ∧ (g = false → K ⟨dst, lk, i :: li, .any, none, none⟩)) := rfl
@[push_cast] theorem gdoR_new : gdoR c dst lk s K g (.new p v b) = ((g = true → p ∧ K ⟨dst, lk, [], v, some (dOf dst, b.kill (dOf dst)), some (dOf dst)⟩) ∧ (g = false → K ⟨dst, lk, [], .any, none, none⟩)) := rfl
@[push_cast] theorem gdoR_call (f : FuncId) (args : List V) : gdoR c dst lk s K g (.call p f args) = ctRG dst lk s K g p args (c.ct f (args.map (bor s.heap))) := by
  simp only [gdoR]
  cases c.ct f (args.map (bor s.heap)) with
  | none => rfl
  | some x => rfl
@[push_cast] theorem gdoR_bad : gdoR c dst lk s K g .bad = False := rfl
@[push_cast] theorem over_sn (d : Nat) : over ⟨some d, lk, ids, v, none, nw⟩ ⟨al l, h⟩ = ⟨al ((d, v) :: l), h⟩ := by simp only [over, setHw, put_some]
@[push_cast] theorem over_nn : over ⟨none, lk, ids, v, none, nw⟩ s = s := rfl
@[push_cast] theorem over_ss (d : Nat) : over ⟨some d, lk, ids, v, some (i, b), nw⟩ ⟨al l, hOf hl⟩ = ⟨al ((d, v) :: l), hOf ((i, b) :: hl)⟩ := by simp only [over, setHw, put_some, hOf_put]
@[push_cast] theorem over_ns : over ⟨none, lk, ids, v, some (i, b), nw⟩ ⟨al l, hOf hl⟩ = ⟨al l, hOf ((i, b) :: hl)⟩ := rfl
@[push_cast] theorem dynE_nil : dynE A rs [] j = True := rfl
@[push_cast] theorem dynE_n (r : List Rec) : dynE A rs (⟨dst, lk, ids, v, none, nw⟩ :: r) j = dynE A rs r (j + 1) := by simp [dynE, wrE]
@[push_cast] theorem dynE_s (r : List Rec) : dynE A rs (⟨dst, lk, ids, v, some (i, b), nw⟩ :: r) j = (rowE A j nw i rs 0 ∧ dynE A rs r (j + 1)) := rfl
@[push_cast] theorem rowE_nil : rowE A j nw w [] i = True := rfl
@[push_cast] theorem rowE_n (r : List Rec) : rowE A j nw w (⟨dst, lk, ids, v, none, none⟩ :: r) i = ((i = j ∨ anc A j i = true ∨ ((anc A i j = true ∨ w ∉ ids) ∧ nwOne nw ⟨dst, [], [], v, none, none⟩)) ∧ rowE A j nw w r (i + 1)) := by
  simp only [rowE, wid, Option.map_none, nwOne, NMR]
  simp
@[push_cast] theorem rowE_s (r : List Rec) (m : Nat) (nw' : Option Nat) : rowE A j nw w (⟨dst, lk, ids, v, some (m, b), nw'⟩ :: r) i = ((i = j ∨ anc A j i = true ∨ ((anc A i j = true ∨ (w ∉ ids ∧ m ≠ w)) ∧ nwOne nw ⟨dst, [], [], v, some (m, b), none⟩)) ∧ rowE A j nw w r (i + 1)) := by
  simp only [rowE, wid, Option.map_some, nwOne, NMR]
  simp
@[push_cast] theorem nwOne_n (x : Rec) : nwOne none x = True := rfl
@[push_cast] theorem nwOne_sn (d : Nat) : nwOne (some d) ⟨dst, lk, ids, v, none, nw⟩ = (V.men d v = false) := by simp [nwOne, NMR]
@[push_cast] theorem nwOne_ss (d : Nat) : nwOne (some d) ⟨dst, lk, ids, v, some (i, b), nw⟩ = (V.men d v = false ∧ i ≠ d ∧ BN d b) := by simp [nwOne, NMR]
@[push_cast] theorem nwE_nil : nwE ds s [] = True := rfl
@[push_cast] theorem nwE_n (r : List Rec) (hw : Option (Nat × Blk)) : nwE ds s (⟨dst, lk, ids, v, hw, none⟩ :: r) = nwE ds s r := by simp [nwE]
@[push_cast] theorem nwE_s (r : List Rec) (d : Nat) : nwE ds s (⟨dst, lk, ids, v, some (i, b), some d⟩ :: r) = ((d ∈ ds ∧ s.heap d = none) ∧ nwE ds s r) := by simp [nwE]
@[push_cast] theorem killSt_at (d : Nat) : killSt d ⟨al l, hOf hl⟩ = ⟨al (killAl d l), hOf (killHL d hl)⟩ := by simp only [killSt, al_kill, hOf_kill]
def preS (d : Nat) (r : List Nat) (s : St) : Option Blk → St
  | none => preL r (killSt d s)
  | some _ => preL r s
attribute [push_cast] preS
@[push_cast] theorem preL_nil : preL [] s = s := rfl
@[push_cast] theorem preL_cons (d : Nat) (r : List Nat) : preL (d :: r) s = preS d r s (s.heap d) := by
  unfold preS
  rw [preL]
  cases s.heap d <;> rfl
def candS (d : Option Nat) (r : List Nat) : Bool → List Nat
  | true => dOf d :: r
  | false => r
attribute [push_cast] candS
@[push_cast] theorem cands_nil : cands [] = [] := rfl
@[push_cast] theorem cands_cons (op : Op) (t : TypeId) (q : String) (af : Array Edge) (g : Option (Nat × Bool)) : cands (⟨dst, op, t, q, af, g⟩ :: r) = candS dst (cands r) (mayNew op) := by
  simp only [cands]
  cases mayNew op <;> rfl
variable (x y z : Operand) (t u : TypeId)
@[push_cast] theorem mn_move : mayNew (.move x) = false := rfl
@[push_cast] theorem mn_assign : mayNew (.assign x) = false := rfl
@[push_cast] theorem mn_pick : mayNew (.pick x y z) = false := rfl
@[push_cast] theorem mn_alloc : mayNew (.alloc t) = true := rfl
@[push_cast] theorem mn_box : mayNew (.box t x) = true := rfl
@[push_cast] theorem mn_build (ps : Array (Nat × Operand)) : mayNew (.build t ps) = false := rfl
@[push_cast] theorem mn_buildSlice (n : Nat) (ps : Array (Nat × Operand)) : mayNew (.buildSlice t n ps) = true := rfl
@[push_cast] theorem mn_load : mayNew (.load t x) = false := rfl
@[push_cast] theorem mn_store : mayNew (.store t x y) = false := rfl
@[push_cast] theorem mn_nil : mayNew (.nilCheck x) = false := rfl
@[push_cast] theorem mn_bin (op : BinOp) : mayNew (.binOp op t x y u) = false := rfl
@[push_cast] theorem mn_un (op : UnOp) : mayNew (.unOp op t x) = false := rfl
@[push_cast] theorem mn_conv : mayNew (.convert t u x) = true := rfl
@[push_cast] theorem mn_makeFunc (f : Fn) (a q : Array Operand) : mayNew (.makeFunc f a q) = false := rfl
@[push_cast] theorem mn_makeSlice : mayNew (.makeSlice t x y) = true := rfl
@[push_cast] theorem mn_slice (a q m : Option Operand) : mayNew (.slice t x a q m) = false := rfl
@[push_cast] theorem mn_fieldAddr (n : Nat) : mayNew (.fieldAddr t x n) = false := rfl
@[push_cast] theorem mn_field (n : Nat) : mayNew (.field t x n) = false := rfl
@[push_cast] theorem mn_indexAddr : mayNew (.indexAddr t x y) = false := rfl
@[push_cast] theorem mn_index : mayNew (.index t x y) = false := rfl
@[push_cast] theorem mn_extract (n : Nat) : mayNew (.extract x n) = false := rfl
@[push_cast] theorem mn_callV (a : Array Operand) (ts : Array TypeId) : mayNew (.call ⟨.value x, a, ts⟩) = false := rfl
@[push_cast] theorem mn_append (a : Array Operand) (ts : Array TypeId) : mayNew (.call ⟨.builtin .append, a, ts⟩) = true := rfl
@[push_cast] theorem mn_len (a : Array Operand) (ts : Array TypeId) : mayNew (.call ⟨.builtin .len, a, ts⟩) = false := rfl
@[push_cast] theorem mn_min (a : Array Operand) (ts : Array TypeId) : mayNew (.call ⟨.builtin .min, a, ts⟩) = false := rfl
@[push_cast] theorem mn_max (a : Array Operand) (ts : Array TypeId) : mayNew (.call ⟨.builtin .max, a, ts⟩) = false := rfl
end
attribute [push_cast] Nat.testBit_eq_decide_div_mod_eq anc not_false_eq_true or_true true_or false_or not_true_eq_false
attribute [push_cast] List.mem_cons List.not_mem_nil or_false not_or V.men V.menL BN
end Go.Abs
