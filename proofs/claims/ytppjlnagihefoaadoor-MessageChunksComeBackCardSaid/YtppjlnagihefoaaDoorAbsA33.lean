import Derived.Test.YtppjlnagihefoaaDoorAbsA32
namespace Go.Abs
open Go
variable {G : PG}

/-- what comes back, as it stands -/
def resLe : Option V → V → Prop
  | some x, r => vle x r
  | none, _ => False
def PostL (P : Program) (rs : List ResultVar) (r : V) (e : Exit) (s : St) : Prop := isEnd e = true ∧ resLe (resV P rs s) r
theorem PostL.post {P : Program} {fn : Func} {rs : List ResultVar} (hrs : fn.results.toList = rs) {r : V} {e : Exit} {s : St} (h : PostL P rs r e s) : PostV P fn r [] e s := by
  refine ⟨h.1, s, Le.refl s, ?_, trivial⟩
  have := h.2
  rw [hrs]
  cases hx : resV P rs s with
  | none => rw [hx] at this; exact this.elim
  | some x => rw [hx] at this; exact vle_ok this
@[push_cast] theorem PostL_ret (P : Program) (rs : List ResultVar) (r : V) (s : St) : PostL P rs r .ret s = resLe (resV P rs s) r := by simp [PostL, isEnd]
@[push_cast] theorem PostL_normal (P : Program) (rs : List ResultVar) (r : V) (s : St) : PostL P rs r .normal s = resLe (resV P rs s) r := by simp [PostL, isEnd]
@[push_cast] theorem PostL_exit (P : Program) (rs : List ResultVar) (r : V) (s : St) (i : Nat) : PostL P rs r (.exit i) s = False := by simp [PostL, isEnd]
attribute [push_cast] resLe
section
variable (y : V)
@[push_cast] theorem vle_int (k : IntKind) (n : Int) : vle (.int k n) y = vle2 (.int k n) y := by cases y <;> rfl
@[push_cast] theorem vle2_int (k : IntKind) (n : Int) : vle2 (.int k n) y = vle1 (.int k n) y := by cases y <;> rfl
@[push_cast] theorem vle_bool (b : Bool) : vle (.bool b) y = vle2 (.bool b) y := by cases y <;> rfl
@[push_cast] theorem vle2_bool (b : Bool) : vle2 (.bool b) y = vle1 (.bool b) y := by cases y <;> rfl
@[push_cast] theorem vle_str (s : List UInt8) : vle (.str s) y = vle2 (.str s) y := by cases y <;> rfl
@[push_cast] theorem vle2_str (s : List UInt8) : vle2 (.str s) y = vle1 (.str s) y := by cases y <;> rfl
@[push_cast] theorem vle_con (v : Value) : vle (.con v) y = vle2 (.con v) y := by cases y <;> rfl
@[push_cast] theorem vle2_con (v : Value) : vle2 (.con v) y = vle1 (.con v) y := by cases y <;> rfl
@[push_cast] theorem vle_sl (n : Nat) (f : Nat → V) : vle (.sl n f) y = vle2 (.sl n f) y := by cases y <;> rfl
@[push_cast] theorem vle2_sl (n : Nat) (f : Nat → V) : vle2 (.sl n f) y = vle1 (.sl n f) y := by cases y <;> rfl
@[push_cast] theorem vle_nilsl  : vle .nilsl y = vle2 .nilsl y := by cases y <;> rfl
@[push_cast] theorem vle2_nilsl  : vle2 .nilsl y = vle1 .nilsl y := by cases y <;> rfl
@[push_cast] theorem vle_vec (i n : Nat) : vle (.vec i n) y = vle2 (.vec i n) y := by cases y <;> rfl
@[push_cast] theorem vle2_vec (i n : Nat) : vle2 (.vec i n) y = vle1 (.vec i n) y := by cases y <;> rfl
@[push_cast] theorem vle_ptr (i o : Nat) : vle (.ptr i o) y = vle2 (.ptr i o) y := by cases y <;> rfl
@[push_cast] theorem vle2_ptr (i o : Nat) : vle2 (.ptr i o) y = vle1 (.ptr i o) y := by cases y <;> rfl
@[push_cast] theorem vle_any  : vle .any y = vle2 .any y := by cases y <;> rfl
@[push_cast] theorem vle2_any  : vle2 .any y = vle1 .any y := by cases y <;> rfl
@[push_cast] theorem vle_tup (l m : List V) : vle (.tup l) (.tup m) = vleR vle2 l m := rfl
@[push_cast] theorem vle_agg (l m : List V) : vle (.agg l) (.agg m) = vleR vle1 l m := rfl
@[push_cast] theorem vle2_agg (l m : List V) : vle2 (.agg l) (.agg m) = vleR vle1 l m := rfl
@[push_cast] theorem vle1_int (k k' : IntKind) (n n' : Int) : vle1 (.int k n) (.int k' n') = (k = k' ∧ n = n') := rfl
@[push_cast] theorem vle1_bool (b b' : Bool) : vle1 (.bool b) (.bool b') = (b = b') := rfl
@[push_cast] theorem vle1_str (b b' : List UInt8) : vle1 (.str b) (.str b') = (b = b') := rfl
@[push_cast] theorem vle1_sl (n m : Nat) (f g : Nat → V) : vle1 (.sl n f) (.sl m g) = (n = m ∧ ∀ i, i < n → f i = g i) := rfl
@[push_cast] theorem vle1_nilsl (m : Nat) (g : Nat → V) : vle1 .nilsl (.sl m g) = (m = 0) := rfl
@[push_cast] theorem vle1_nil : vle1 .nilsl .nilsl = True := by simp [vle1]
@[push_cast] theorem vle1_vec (i n j m : Nat) : vle1 (.vec i n) (.vec j m) = (i = j ∧ n = m) := rfl
@[push_cast] theorem vle1_ptr (i n j m : Nat) : vle1 (.ptr i n) (.ptr j m) = (V.ptr i n = .ptr j m) := rfl
@[push_cast] theorem vle1_con (v u : Value) : vle1 (.con v) (.con u) = (V.con v = .con u) := rfl
@[push_cast] theorem vle1_any : vle1 y .any = True := by cases y <;> rfl
end
/-- a function, by its body -/
theorem pcall_body {c : Cfg} (hc : CfgOk c) (f : FuncId) {fn : Func} {code : Code} {rs : List ResultVar} (hf : c.P.funcs[f]? = some fn) (hb : fn.body = some code) (hrs : fn.results.toList = rs) (hent : entB c.P f = true) (hn : fn.ntmps = c.n)
    (hok : (codeOk c.an code && Nat.ble c.n 8999) = true) {args : List V} (ha : Nat.ble args.length c.n = true) {r : V} (hr : r.noId = true) (h : exec c code ⟨argE args, hOf []⟩ (PostL c.P rs r)) : PCall c.G f args r := by
  simp only [Bool.and_eq_true] at hok
  exact pcall_of hc hf hb hent hn (Nat.le_of_ble_eq_true hok.2) hok.1 (Nat.le_of_ble_eq_true ha) hr (fun e s => PostL.post hrs) h
/- a state, by its lists -/
def levE (s : St) : List (Nat × V) → Prop
  | [] => True
  | (k, v) :: r => vle (s.env k) v ∧ levE s r
theorem levE_ok {s : St} : ∀ {l : List (Nat × V)}, levE s l → leE s l
  | [], _ => trivial
  | (_, _) :: _, h => ⟨vle_ok h.1, levE_ok h.2⟩
def levB (o : Option Blk) (b : Blk) : Prop := match o with
  | some b' => BLe b' b
  | none => False
def levH (s : St) : HL → Prop
  | [] => True
  | (k, b) :: r => levB (s.heap k) b ∧ levH s r
theorem levH_ok {s : St} : ∀ {l : HL}, levH s l → leH s l
  | [], _ => trivial
  | (k, b) :: r, h => by
    refine ⟨?_, levH_ok h.2⟩
    have := h.1
    unfold levB at this
    exact this
attribute [push_cast] levE levH levB BLe
theorem Le.lev {s : St} {l : List (Nat × V)} {hl : HL} (h : levE s l ∧ levH s hl) : Le s ⟨al l, hOf hl⟩ := Le.of (levE_ok h.1) (levH_ok h.2)
def loopK {T : Type} (l : T → List (Nat × V)) (hl : T → HL) (I : T → Prop) (μ : T → Nat) (t : T) (K : Exit → St → Prop) : Exit → St → Prop := thn (fun s' => ∃ t', I t' ∧ μ t' < μ t ∧ levE s' (l t') ∧ levH s' (hl t')) K
section
variable {T : Type} (l : T → List (Nat × V)) (hl : T → HL) (I : T → Prop) (μ : T → Nat) (t : T) (K : Exit → St → Prop) (s : St)
@[push_cast] theorem loopK_n : loopK l hl I μ t K .normal s = ∃ t', I t' ∧ μ t' < μ t ∧ levE s (l t') ∧ levH s (hl t') := rfl
@[push_cast] theorem loopK_r : loopK l hl I μ t K .ret s = K .ret s := rfl
@[push_cast] theorem loopK_e (i : Nat) : loopK l hl I μ t K (.exit i) s = K (.exit i) s := rfl
end
/-- A LOOP: at its head, for a t of which I holds, the temporaries are l t and the own blocks hl t; μ falls. -/
theorem LoopW.by {c : Cfg} (hc : CfgOk c) {b : Code} (hok : codeOk c.an b = true) {s : St} {K : Exit → St → Prop} {T : Type} (l : T → List (Nat × V)) (hl : T → HL) (I : T → Prop) (μ : T → Nat) (t0 : T) (h0 : I t0 ∧ levE s (l t0) ∧ levH s (hl t0))
    (body : ∀ t, I t → exec c b ⟨al (l t), hOf (hl t)⟩ (loopK l hl I μ t K)) : LoopW c b s K := by
  refine LoopW.rule' hc hok (fun t => ⟨al (l t), hOf (hl t)⟩) I μ t0 h0.1 (Le.lev h0.2) (fun t => loopK l hl I μ t K) (fun t e s' hk => ?_) body
  cases e with
  | normal =>
    obtain ⟨t', h1, h2, h3⟩ := hk
    exact ⟨t', h1, h2, Le.lev h3⟩
  | _ => exact hk
end Go.Abs
