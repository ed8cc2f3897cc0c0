import Derived.Test.YtppjlnagihefoaaDoorAbsA31
namespace Go.Abs
open Go
variable {G : PG}

attribute [push_cast] cond_true cond_false true_and and_true and_self Option.getD_some Option.getD_none List.getElem?_cons_succ List.getElem?_cons_zero forall_const List.map_cons List.map_nil List.toList_toArray Option.toList_some Option.toList_none Option.map_some Option.map_none
attribute [push_cast] Bool.cond_true_left Bool.cond_false_right Bool.cond_false_left Bool.cond_true_right Bool.or_eq_true Bool.or_eq_false_iff Bool.and_eq_false_imp bne_iff_ne beq_iff_eq bne_eq_false_iff_eq beq_eq_false_iff_ne ne_eq Bool.true_or Bool.or_true Bool.not_eq_false'
attribute [push_cast] Int.toNat_sub Int.ofNat_le Int.ofNat_lt Int.ofNat_inj Int.toNat_natCast Int.toNat_zero Int.toNat_one
attribute [push_cast] I64
attribute [push_cast] eq_self imp_self forall_self_imp Bool.not_eq_true' Bool.and_eq_true decide_eq_true_eq decide_eq_false_iff_not
attribute [push_cast] false_imp_iff true_imp_iff decide_false decide_true Bool.or_false Bool.false_or Bool.or_true Bool.true_or List.nil_append List.cons_append List.append_nil false_and and_false List.length_cons List.length_nil implies_true Bool.not_true Bool.not_false Bool.and_true Bool.true_and Bool.false_and Bool.and_false
attribute [push_cast] OR.and vBin vBinI isSh vInt vStr vBool vUn vPick vConv vToInt vIndex vIndexAddr vFieldAddr vField vLoad vStore vLen vMin vMax vSrc vAppend vSlice vMake vAlloc vBox vBuild vNil vExtract vCallV vCall gdL vArith isI64 bnd srcT zok
attribute [push_cast] List.getD_cons_zero List.getD_cons_succ List.drop_zero Nat.sub_zero List.take_zero
attribute [push_cast] TI.isAgg sub reV fieldOff buildS sizedL V.ofV1 V.toByte
@[push_cast] theorem cfgP (G : PG) (ct : Ct) (ow : Nat → Bool) (n : Nat) (an : Nat → List Nat) : Cfg.P ⟨G, ct, ow, n, an⟩ = G.prog := rfl
attribute [push_cast] gsV inN dOf cndV codeOk borPL borP borL bor V.isVecL V.isVec V.shift V.shiftL V.noId V.noIdL V.noSl V.noSlL lent List.any_cons List.any_nil Bool.or_false Bool.false_or
attribute [push_cast] V.kill V.killL Blk.kill killAl isEnd resV resT resM res1 leE leH vleR
@[push_cast] theorem wrap_u8 (n : Int) : IntKind.u8.wrap n = n % 256 := by simp [IntKind.wrap, IntKind.bits, IntKind.signed]
@[push_cast] theorem wrap_u16 (n : Int) : IntKind.u16.wrap n = n % 65536 := by simp [IntKind.wrap, IntKind.bits, IntKind.signed]
@[push_cast] theorem wrap_u32 (n : Int) : IntKind.u32.wrap n = n % 4294967296 := by simp [IntKind.wrap, IntKind.bits, IntKind.signed]
@[push_cast] theorem wrap_u64 (n : Int) : IntKind.u64.wrap n = n % 18446744073709551616 := by simp [IntKind.wrap, IntKind.bits, IntKind.signed]
@[push_cast] theorem flat_int (k : IntKind) (n : Int) : V.flat (.int k n) = [(.int k n)] := rfl
@[push_cast] theorem one_int (k : IntKind) (n : Int) : V.one (.int k n) = true := rfl
@[push_cast] theorem okc_int (k : IntKind) (n : Int) : okCells (.int k n) = true := rfl
@[push_cast] theorem pure_int (k : IntKind) (n : Int) : V.isPure (.int k n) = true := rfl
@[push_cast] theorem flat_bool (b : Bool) : V.flat (.bool b) = [(.bool b)] := rfl
@[push_cast] theorem one_bool (b : Bool) : V.one (.bool b) = true := rfl
@[push_cast] theorem okc_bool (b : Bool) : okCells (.bool b) = true := rfl
@[push_cast] theorem pure_bool (b : Bool) : V.isPure (.bool b) = true := rfl
@[push_cast] theorem flat_str (s : List UInt8) : V.flat (.str s) = [(.str s)] := rfl
@[push_cast] theorem one_str (s : List UInt8) : V.one (.str s) = true := rfl
@[push_cast] theorem okc_str (s : List UInt8) : okCells (.str s) = true := rfl
@[push_cast] theorem pure_str (s : List UInt8) : V.isPure (.str s) = true := rfl
@[push_cast] theorem flat_nilsl  : V.flat .nilsl = [.nilsl] := rfl
@[push_cast] theorem one_nilsl  : V.one .nilsl = true := rfl
@[push_cast] theorem okc_nilsl  : okCells .nilsl = true := rfl
@[push_cast] theorem pure_nilsl  : V.isPure .nilsl = true := rfl
@[push_cast] theorem flat_sl (n : Nat) (f : Nat → V) : V.flat (.sl n f) = [(.sl n f)] := rfl
@[push_cast] theorem one_sl (n : Nat) (f : Nat → V) : V.one (.sl n f) = true := rfl
@[push_cast] theorem okc_sl (n : Nat) (f : Nat → V) : okCells (.sl n f) = true := rfl
@[push_cast] theorem pure_sl (n : Nat) (f : Nat → V) : V.isPure (.sl n f) = true := rfl
@[push_cast] theorem flat_ptr (i o : Nat) : V.flat (.ptr i o) = [(.ptr i o)] := rfl
@[push_cast] theorem one_ptr (i o : Nat) : V.one (.ptr i o) = true := rfl
@[push_cast] theorem okc_ptr (i o : Nat) : okCells (.ptr i o) = true := rfl
@[push_cast] theorem pure_ptr (i o : Nat) : V.isPure (.ptr i o) = false := rfl
@[push_cast] theorem flat_eptr (i n z j o : Nat) : V.flat (.eptr i n z j o) = [(.eptr i n z j o)] := rfl
@[push_cast] theorem one_eptr (i n z j o : Nat) : V.one (.eptr i n z j o) = true := rfl
@[push_cast] theorem okc_eptr (i n z j o : Nat) : okCells (.eptr i n z j o) = true := rfl
@[push_cast] theorem pure_eptr (i n z j o : Nat) : V.isPure (.eptr i n z j o) = false := rfl
@[push_cast] theorem flat_iptr (l : List V) : V.flat (.iptr l) = [(.iptr l)] := rfl
@[push_cast] theorem one_iptr (l : List V) : V.one (.iptr l) = true := rfl
@[push_cast] theorem okc_iptr (l : List V) : okCells (.iptr l) = true := rfl
@[push_cast] theorem pure_iptr (l : List V) : V.isPure (.iptr l) = false := rfl
@[push_cast] theorem flat_fn (f : Fn) (a b : List V) : V.flat (.fn f a b) = [(.fn f a b)] := rfl
@[push_cast] theorem one_fn (f : Fn) (a b : List V) : V.one (.fn f a b) = true := rfl
@[push_cast] theorem okc_fn (f : Fn) (a b : List V) : okCells (.fn f a b) = true := rfl
@[push_cast] theorem pure_fn (f : Fn) (a b : List V) : V.isPure (.fn f a b) = false := rfl
@[push_cast] theorem flat_map (i : Nat) : V.flat (.map i) = [(.map i)] := rfl
@[push_cast] theorem flat_vw (i o n : Nat) : V.flat (.vw i o n) = [(.vw i o n)] := rfl
@[push_cast] theorem one_map (i : Nat) : V.one (.map i) = true := rfl
@[push_cast] theorem one_vw (i o n : Nat) : V.one (.vw i o n) = true := rfl
@[push_cast] theorem okc_map (i : Nat) : okCells (.map i) = true := rfl
@[push_cast] theorem okc_vw (i o n : Nat) : okCells (.vw i o n) = true := rfl
@[push_cast] theorem pure_map (i : Nat) : V.isPure (.map i) = false := rfl
@[push_cast] theorem pure_vw (i o n : Nat) : V.isPure (.vw i o n) = false := rfl
@[push_cast] theorem flat_vec (i n : Nat) : V.flat (.vec i n) = [(.vec i n)] := rfl
@[push_cast] theorem one_vec (i n : Nat) : V.one (.vec i n) = true := rfl
@[push_cast] theorem okc_vec (i n : Nat) : okCells (.vec i n) = true := rfl
@[push_cast] theorem pure_vec (i n : Nat) : V.isPure (.vec i n) = false := rfl
@[push_cast] theorem flat_con (v : Value) : V.flat (.con v) = [(.con v)] := rfl
@[push_cast] theorem one_con (v : Value) : V.one (.con v) = v.oneCell' := rfl
@[push_cast] theorem okc_con (v : Value) : okCells (.con v) = v.oneCell' := rfl
@[push_cast] theorem pure_con (v : Value) : V.isPure (.con v) = true := rfl
@[push_cast] theorem flat_any  : V.flat .any = [.any] := rfl
@[push_cast] theorem one_any  : V.one .any = false := rfl
@[push_cast] theorem okc_any  : okCells .any = false := rfl
@[push_cast] theorem pure_any  : V.isPure .any = false := rfl
@[push_cast] theorem flat_opt (g : Bool) (v : V) : V.flat (.opt g v) = [(.opt g v)] := rfl
@[push_cast] theorem one_opt (g : Bool) (v : V) : V.one (.opt g v) = false := rfl
@[push_cast] theorem okc_opt (g : Bool) (v : V) : okCells (.opt g v) = false := rfl
@[push_cast] theorem pure_opt (g : Bool) (v : V) : V.isPure (.opt g v) = false := rfl
@[push_cast] theorem flat_tup (l : List V) : V.flat (.tup l) = [(.tup l)] := rfl
@[push_cast] theorem one_tup (l : List V) : V.one (.tup l) = false := rfl
@[push_cast] theorem okc_tup (l : List V) : okCells (.tup l) = false := rfl
@[push_cast] theorem pure_tup (l : List V) : V.isPure (.tup l) = false := rfl
@[push_cast] theorem flat_agg (l : List V) : V.flat (.agg l) = l := rfl
@[push_cast] theorem one_agg (l : List V) : V.one (.agg l) = false := rfl
@[push_cast] theorem okc_agg (l : List V) : okCells (.agg l) = true := rfl
/-- one cell that lies in memory for good -/
def V.pur1 : V → Bool
  | .int _ _ | .bool _ | .str _ | .nilsl | .sl _ _ | .con _ => true
  | _ => false
def V.pur1L : List V → Bool
  | [] => true
  | x :: r => x.pur1 && V.pur1L r
@[push_cast] theorem pur1_int (k : IntKind) (n : Int) : V.pur1 (.int k n) = true := rfl
@[push_cast] theorem pur1_bool (b : Bool) : V.pur1 (.bool b) = true := rfl
@[push_cast] theorem pur1_str (s : List UInt8) : V.pur1 (.str s) = true := rfl
@[push_cast] theorem pur1_nilsl  : V.pur1 .nilsl = true := rfl
@[push_cast] theorem pur1_sl (n : Nat) (f : Nat → V) : V.pur1 (.sl n f) = true := rfl
@[push_cast] theorem pur1_ptr (i o : Nat) : V.pur1 (.ptr i o) = false := rfl
@[push_cast] theorem pur1_eptr (i n z j o : Nat) : V.pur1 (.eptr i n z j o) = false := rfl
@[push_cast] theorem pur1_iptr (l : List V) : V.pur1 (.iptr l) = false := rfl
@[push_cast] theorem pur1_fn (f : Fn) (a b : List V) : V.pur1 (.fn f a b) = false := rfl
@[push_cast] theorem pur1_map (i : Nat) : V.pur1 (.map i) = false := rfl
@[push_cast] theorem pur1_vw (i o n : Nat) : V.pur1 (.vw i o n) = false := rfl
@[push_cast] theorem pur1_vec (i n : Nat) : V.pur1 (.vec i n) = false := rfl
@[push_cast] theorem pur1_con (v : Value) : V.pur1 (.con v) = true := rfl
@[push_cast] theorem pur1_any  : V.pur1 .any = false := rfl
@[push_cast] theorem pur1_opt (g : Bool) (v : V) : V.pur1 (.opt g v) = false := rfl
@[push_cast] theorem pur1_tup (l : List V) : V.pur1 (.tup l) = false := rfl
attribute [push_cast] V.pur1L
@[push_cast] theorem pure_agg (l : List V) : V.isPure (.agg l) = V.pur1L l := by
  induction l with
  | nil => rfl
  | cons x r ih => rw [V.pur1L, ← ih]; cases x <;> rfl
/-- the parts of a slice's literal -/
def bsP (sz : Nat) : List V → Prop
  | [] => True
  | x :: r => (x.flat.length = sz ∧ okCells x = true) ∧ bsP sz r
def bsQ (sz : Nat) : List V → Prop
  | [] => True
  | x :: r => (x.flat.length = sz ∧ okCells x = true ∧ x.isPure = true) ∧ bsQ sz r
theorem bsP_iff (sz : Nat) (l : List V) : (∀ x ∈ l, x.flat.length = sz ∧ okCells x = true) ↔ bsP sz l := by
  induction l with
  | nil => simp [bsP]
  | cons x r ih => rw [List.forall_mem_cons, ih, bsP]
theorem bsQ_iff (sz : Nat) (l : List V) : (∀ x ∈ l, x.flat.length = sz ∧ okCells x = true ∧ x.isPure = true) ↔ bsQ sz l := by
  induction l with
  | nil => simp [bsQ]
  | cons x r ih => rw [List.forall_mem_cons, ih, bsQ]
def sndL : List (Nat × V) → List V
  | [] => []
  | p :: r => p.2 :: sndL r
theorem sndL_eq (l : List (Nat × V)) : l.map Prod.snd = sndL l := by
  induction l with
  | nil => rfl
  | cons p r ih => rw [List.map_cons, ih]; rfl
def lenL : List (Nat × V) → Nat
  | [] => 0
  | _ :: r => lenL r + 1
theorem lenL_eq (l : List (Nat × V)) : l.length = lenL l := by
  induction l with
  | nil => rfl
  | cons p r ih => rw [List.length_cons, ih]; rfl
def vBS (P : Program) (ow : Bool) (d len : Nat) (parts : List (Nat × V)) : Bool → TD → OR
  | true, .slice e => bif ow then
      .new (len = lenL parts ∧ 0 < (ti P e).size ∧ len * (ti P e).size ≤ 16777216 ∧ (ti P e).zero.isSome = true ∧ bsP (ti P e).size (sndL parts)) (.vec d len) (.vec (ti P e).size len (litF (sndL parts)))
    else .val (len = lenL parts ∧ 0 < (ti P e).size ∧ len * (ti P e).size ≤ 16777216 ∧ (ti P e).zero.isSome = true ∧ bsQ (ti P e).size (sndL parts)) (.sl len (litF (sndL parts)))
  | _, _ => .bad
attribute [push_cast] vBS bsP bsQ sndL lenL Option.isSome_some
@[push_cast] theorem vBuildSlice_at (P : Program) (ow : Bool) (d : Nat) (t : TypeId) (len : Nat) (parts : List (Nat × V)) : vBuildSlice P ow d t len parts = vBS P ow d len parts (inOrder 0 parts) (ti P t).d := by
  unfold vBuildSlice vBS
  simp only [bsP_iff, bsQ_iff, sndL_eq, lenL_eq]
  cases (ti P t).d <;> cases inOrder 0 parts <;> rfl
def litP (sz : Nat) : Nat → List V → Prop
  | 0, _ => True
  | n + 1, [] => sz = 1 ∧ litP sz n []
  | n + 1, x :: r => x.flat.length = sz ∧ litP sz n r
@[push_cast] theorem lit_flat (n sz : Nat) (vs : List V) : (∀ i, i < n → (litF vs i).flat.length = sz) = litP sz n vs := by
  refine propext ?_
  induction n generalizing vs with
  | zero => simp [litP]
  | succ n ih =>
    cases vs with
    | nil =>
      rw [litP, ← ih]
      refine ⟨fun h => ⟨(h 0 (by omega)).symm, fun i hi => h (i + 1) (by omega)⟩, fun h i hi => ?_⟩
      cases i with
      | zero => exact h.1.symm
      | succ i => exact h.2 i (by omega)
    | cons x r =>
      rw [litP, ← ih]
      refine ⟨fun h => ⟨h 0 (by omega), fun i hi => h (i + 1) (by omega)⟩, fun h i hi => ?_⟩
      cases i with
      | zero => exact h.1
      | succ i => exact h.2 i (by omega)
attribute [push_cast] litP
@[push_cast] theorem byF_u8 (n : Nat) (l : List UInt8) : (∀ i, i < n → ∃ m, byF l i = V.int .u8 m) = True := eq_true fun _ _ => ⟨_, rfl⟩
@[push_cast] theorem byF_flat (n : Nat) (l : List UInt8) : (∀ i, i < n → (byF l i).flat.length = 1) = True := eq_true fun _ _ => rfl
@[push_cast] theorem cast_nonneg (n : Nat) : (0 ≤ (n : Int)) = True := eq_true (Int.natCast_nonneg n)
attribute [push_cast] inOrder
@[push_cast] theorem beq_self_nat (n : Nat) : (n == n) = true := by simp

section
variable (c : Cfg) (all r : List Oper) (o : Oper) (s : St) (e : Env) (h : Heap) (l : List (Nat × V)) (hl : HL) (K : St → Prop) (KK : Exit → St → Prop) (v : V) (d : Nat)
@[push_cast] theorem al_cons (k t : Nat) : al ((k, v) :: l) t = if k = t then v else al l t := by
  simp only [al]
  by_cases h : k = t
  · subst h; simp
  · have : Nat.beq k t = false := by
      cases hb : Nat.beq k t with
      | false => rfl
      | true => exact absurd (Nat.eq_of_beq_eq_true hb) h
    rw [this, if_neg h]; rfl
@[push_cast] theorem al_nil (t : Nat) : al [] t = .any := rfl
@[push_cast] theorem put_some : St.put ⟨al l, h⟩ (some d) v = ⟨al ((d, v) :: l), h⟩ := by simp only [St.put, al_upd]
@[push_cast] theorem put_none : St.put s none v = s := rfl
@[push_cast] theorem hOf_cons (k : Nat) (b : Blk) (t : Nat) : hOf ((k, b) :: hl) t = if k = t then some b else hOf hl t := by
  simp only [hOf, upd]
  by_cases h : t = k
  · subst h; simp
  · rw [if_neg h, if_neg fun e => h e.symm]
@[push_cast] theorem killHL_nil : killHL d [] = [] := rfl
@[push_cast] theorem killHL_cons (k : Nat) (b : Blk) : killHL d ((k, b) :: hl) = if k = d then killHL d hl else (k, b.kill d) :: killHL d hl := by
  simp only [killHL]
  by_cases h : k = d
  · subst h; simp
  · have : Nat.beq k d = false := by
      cases hb : Nat.beq k d with
      | false => rfl
      | true => exact absurd (Nat.eq_of_beq_eq_true hb) h
    rw [this, if_neg h]; rfl
@[push_cast] theorem setR_zero (xs ys : List V) : setR xs 0 ys = ys ++ xs.drop ys.length := by simp [setR]
@[push_cast] theorem setR_succ (x : V) (xs ys : List V) (n : Nat) : setR (x :: xs) (n + 1) ys = x :: setR xs n ys := by
  simp only [setR, List.take_succ_cons, List.cons_append]
  rw [show n + 1 + ys.length = (n + ys.length) + 1 by omega, List.drop_succ_cons]
attribute [push_cast] List.drop_succ_cons List.drop_nil List.take_succ_cons List.take_nil
@[push_cast] theorem toNat_add1 (n : Nat) : ((n : Int) + 1).toNat = n + 1 := by omega
@[push_cast] theorem toNat_add2 (n : Nat) : ((n : Int) + 2).toNat = n + 2 := by omega
@[push_cast] theorem hOf_nil (t : Nat) : hOf [] t = none := rfl
@[push_cast] theorem hOf_put (k : Nat) (b : Blk) : upd (hOf hl) k (some b) = hOf ((k, b) :: hl) := rfl
@[push_cast] theorem hOf_kill' : killH d (hOf hl) = hOf (killHL d hl) := hOf_kill hl d
@[push_cast] theorem al_kill' : killE d (al l) = al (killAl d l) := al_kill l d
def enumL : Nat → List V → List (Nat × V)
  | _, [] => []
  | k, v :: r => (k, v) :: enumL (k + 1) r
theorem enumL_al (args : List V) (k t : Nat) : al (enumL k args) t = if t < k then .any else args.getD (t - k) .any := by
  induction args generalizing k with
  | nil => simp [enumL, al]
  | cons v r ih =>
    rw [enumL, al_cons, ih]
    by_cases h : k = t
    · subst h; simp
    · by_cases h2 : t < k
      · rw [if_neg h, if_pos (by omega), if_pos h2]
      · rw [if_neg h, if_neg (by omega), if_neg h2]
        obtain ⟨j, rfl⟩ : ∃ j, t = k + (j + 1) := ⟨t - k - 1, by omega⟩
        rw [show k + (j + 1) - k = j + 1 by omega, show k + (j + 1) - (k + 1) = j by omega]
        simp
@[push_cast] theorem argE_al (args : List V) : argE args = al (enumL 0 args) := by
  funext t
  rw [enumL_al]
  simp [argE]
attribute [push_cast] enumL
@[push_cast] theorem ev_tmp (t : Nat) : ev e (.tmp t) = e t := rfl
@[push_cast] theorem ev_fn (f : FuncId) : ev e (.func f) = .fn (.func f) [] [] := rfl
@[push_cast] theorem ev_int (k : IntKind) (n : Int) : ev e (.const (.int k n)) = .int k n := rfl
@[push_cast] theorem ev_bool (b : Bool) : ev e (.const (.bool b)) = .bool b := rfl
@[push_cast] theorem ev_str (a : Array UInt8) : ev e (.const (.string ⟨a⟩)) = .str a.toList := rfl
@[push_cast] theorem ev_nil (a : Option Addr) : ev e (.const (.slice a 0 0)) = .nilsl := rfl
@[push_cast] theorem ev_nilp (a : Option Addr) : ev e (.const (.pointer a)) = .con (.pointer a) := rfl
@[push_cast] theorem ev_agg (a : Array Value) : ev e (.const (.agg a)) = V.ofV (.agg a) := rfl
@[push_cast] theorem gst_none : gst e all none = .always := rfl
def gsel (b : Bool) (e : Env) : Option Nat → GS
  | some d => gsV b (e d)
  | none => .bad
attribute [push_cast] gsel
@[push_cast] theorem gst_some (j : Nat) (b : Bool) : gst e all (some (j, b)) = gsel b e (dstOf all j) := rfl
@[push_cast] theorem dstOf_s (j : Nat) : dstOf (o :: all) (j + 1) = dstOf all j := rfl
@[push_cast] theorem dstOf_z (dst : Option Nat) (op : Op) (t : TypeId) (p : String) (af : Array Edge) (g : Option (Nat × Bool)) : dstOf (⟨dst, op, t, p, af, g⟩ :: all) 0 = dst := rfl
def opsK : St → Prop := fun s' => opsRun c all r s' K
@[push_cast] theorem opsK_at : opsK c all r K s = opsRun c all r s K := rfl
@[push_cast] theorem opsRun_nil : opsRun c all [] s K = K s := rfl
@[push_cast] theorem opsRun_cons : opsRun c all (o :: r) s K = oneOp c all s o (opsK c all r K) := rfl
@[push_cast] theorem strip_int (k : IntKind) (n : Int) : V.strip (.int k n) = (.int k n) := rfl
@[push_cast] theorem gd_int (k : IntKind) (n : Int) : V.gd (.int k n) = True := rfl
@[push_cast] theorem strip_bool (b : Bool) : V.strip (.bool b) = (.bool b) := rfl
@[push_cast] theorem gd_bool (b : Bool) : V.gd (.bool b) = True := rfl
@[push_cast] theorem strip_str (s : List UInt8) : V.strip (.str s) = (.str s) := rfl
@[push_cast] theorem gd_str (s : List UInt8) : V.gd (.str s) = True := rfl
@[push_cast] theorem strip_con (v : Value) : V.strip (.con v) = (.con v) := rfl
@[push_cast] theorem gd_con (v : Value) : V.gd (.con v) = True := rfl
@[push_cast] theorem strip_nilsl  : V.strip .nilsl = .nilsl := rfl
@[push_cast] theorem gd_nilsl  : V.gd .nilsl = True := rfl
@[push_cast] theorem strip_agg (l : List V) : V.strip (.agg l) = (.agg l) := rfl
@[push_cast] theorem gd_agg (l : List V) : V.gd (.agg l) = True := rfl
@[push_cast] theorem strip_tup (l : List V) : V.strip (.tup l) = (.tup l) := rfl
@[push_cast] theorem gd_tup (l : List V) : V.gd (.tup l) = True := rfl
@[push_cast] theorem strip_sl (n : Nat) (f : Nat → V) : V.strip (.sl n f) = (.sl n f) := rfl
@[push_cast] theorem gd_sl (n : Nat) (f : Nat → V) : V.gd (.sl n f) = True := rfl
@[push_cast] theorem strip_iptr (l : List V) : V.strip (.iptr l) = (.iptr l) := rfl
@[push_cast] theorem gd_iptr (l : List V) : V.gd (.iptr l) = True := rfl
@[push_cast] theorem strip_ptr (i o : Nat) : V.strip (.ptr i o) = (.ptr i o) := rfl
@[push_cast] theorem gd_ptr (i o : Nat) : V.gd (.ptr i o) = True := rfl
@[push_cast] theorem strip_vec (i n : Nat) : V.strip (.vec i n) = (.vec i n) := rfl
@[push_cast] theorem gd_vec (i n : Nat) : V.gd (.vec i n) = True := rfl
@[push_cast] theorem strip_eptr (i n z j o : Nat) : V.strip (.eptr i n z j o) = (.eptr i n z j o) := rfl
@[push_cast] theorem gd_eptr (i n z j o : Nat) : V.gd (.eptr i n z j o) = True := rfl
@[push_cast] theorem strip_fn (f : Fn) (a b : List V) : V.strip (.fn f a b) = (.fn f a b) := rfl
@[push_cast] theorem gd_fn (f : Fn) (a b : List V) : V.gd (.fn f a b) = True := rfl
@[push_cast] theorem strip_map (i : Nat) : V.strip (.map i) = (.map i) := rfl
@[push_cast] theorem strip_vw (i o n : Nat) : V.strip (.vw i o n) = (.vw i o n) := rfl
@[push_cast] theorem gd_map (i : Nat) : V.gd (.map i) = True := rfl
@[push_cast] theorem gd_vw (i o n : Nat) : V.gd (.vw i o n) = True := rfl
@[push_cast] theorem strip_any  : V.strip .any = .any := rfl
@[push_cast] theorem gd_any  : V.gd .any = True := rfl
@[push_cast] theorem strip_opt (g : Bool) (v : V) : V.strip (.opt g v) = v := rfl
@[push_cast] theorem gd_opt (g : Bool) (v : V) : V.gd (.opt g v) = (g = true) := rfl
def selG (dst : Option Nat) (s : St) (K : St → Prop) : GS → OR → Prop
  | .always, R => alw c dst s K R
  | .ifb g, R => gdo c dst s K g R
  | .bad, _ => False
attribute [push_cast] selG
@[push_cast] theorem oneOp_mk (dst : Option Nat) (op : Op) (t : TypeId) (p : String) (af : Array Edge) (g : Option (Nat × Bool)) : oneOp c all s ⟨dst, op, t, p, af, g⟩ K = (inN c.n dst ∧ selG c dst s K (gst s.env all g) (opO c.P c.ow (dOf dst) s.heap s.env op)) := by
  unfold oneOp selG
  simp only
  cases gst s.env all g <;> rfl
def ctSel (dst : Option Nat) (s : St) (K : St → Prop) (f : FuncId) (args : List V) : Option (Prop × V) → Prop
  | some (q, r) => q ∧ lent s.heap args r ∧ K (s.put dst r)
  | none => (CallK c.G f args s.heap fun r h => K (St.put ⟨s.env, h⟩ dst r)) ∨ CallN c.G f args s.heap (dOf dst) fun r h => K (St.put ⟨killE (dOf dst) s.env, h⟩ dst r)
def ctSelG (dst : Option Nat) (s : St) (K : St → Prop) (g : Bool) (p : Prop) (f : FuncId) (args : List V) : Option (Prop × V) → Prop
  | some (q, r) => (g = true → p ∧ q ∧ lent s.heap args r) ∧ K (s.put dst (.opt g r))
  | none => (g = true → p ∧ ((CallK c.G f args s.heap fun r h => K (St.put ⟨s.env, h⟩ dst r)) ∨ CallN c.G f args s.heap (dOf dst) fun r h => K (St.put ⟨killE (dOf dst) s.env, h⟩ dst r))) ∧ (g = false → K (s.put dst .any))
attribute [push_cast] ctSel ctSelG
@[push_cast] theorem alw_val (dst : Option Nat) (p : Prop) : alw c dst s K (.val p v) = (p ∧ K (s.put dst v)) := rfl
@[push_cast] theorem alw_rd (dst : Option Nat) (p : Prop) (i : Nat) : alw c dst s K (.rd i p v) = (p ∧ K (s.put dst v)) := rfl
@[push_cast] theorem alw_wr (dst : Option Nat) (p : Prop) (i : Nat) (li : List Nat) (b : Blk) : alw c dst ⟨e, h⟩ K (.wr li i p v b) = (p ∧ K (St.put ⟨e, upd h i (some b)⟩ dst v)) := rfl
@[push_cast] theorem alw_new (dst : Nat) (p : Prop) (b : Blk) : alw c (some dst) ⟨e, h⟩ K (.new p v b) = (p ∧ K (St.put ⟨killE dst e, upd (killH dst h) dst (some (b.kill dst))⟩ (some dst) v)) := rfl
@[push_cast] theorem alw_call (dst : Option Nat) (p : Prop) (f : FuncId) (args : List V) : alw c dst s K (.call p f args) = (p ∧ ctSel c dst s K f args (c.ct f (args.map (bor s.heap)))) := by
  simp only [alw]
  cases c.ct f (args.map (bor s.heap)) with
  | none => rfl
  | some x => rfl
@[push_cast] theorem alw_bad (dst : Option Nat) : alw c dst s K .bad = False := rfl
@[push_cast] theorem gdo_val (dst : Option Nat) (p : Prop) (g : Bool) : gdo c dst s K g (.val p v) = ((g = true → p) ∧ K (s.put dst (.opt g v))) := rfl
@[push_cast] theorem gdo_rd (dst : Option Nat) (p : Prop) (i : Nat) (g : Bool) : gdo c dst s K g (.rd i p v) = ((g = true → p) ∧ K (s.put dst (.opt g v))) := rfl
@[push_cast] theorem gdo_wr (dst : Option Nat) (p : Prop) (i : Nat) (li : List Nat) (b : Blk) (g : Bool) : gdo c dst ⟨e, h⟩ K g (.wr li i p v b) = ((g = true → p ∧ K (St.put ⟨e, upd h i (some b)⟩ dst v)) ∧ (g = false → K (St.put ⟨e, h⟩ dst .any))) := rfl
@[push_cast] theorem gdo_new (dst : Nat) (p : Prop) (b : Blk) (g : Bool) : gdo c (some dst) ⟨e, h⟩ K g (.new p v b) = ((g = true → p ∧ K (St.put ⟨killE dst e, upd (killH dst h) dst (some (b.kill dst))⟩ (some dst) v)) ∧ (g = false → K (St.put ⟨e, h⟩ (some dst) .any))) := rfl
@[push_cast] theorem gdo_call (dst : Option Nat) (p : Prop) (f : FuncId) (args : List V) (g : Bool) : gdo c dst s K g (.call p f args) = ctSelG c dst s K g p f args (c.ct f (args.map (bor s.heap))) := by
  simp only [gdo, alw]
  cases c.ct f (args.map (bor s.heap)) with
  | none => rfl
  | some x => rfl
@[push_cast] theorem gdo_bad (dst : Option Nat) (g : Bool) : gdo c dst s K g .bad = False := rfl
section
variable (P : Program) (ow : Nat → Bool) (x y z : Operand) (t u : TypeId)
@[push_cast] theorem op_move : opO P ow d h e (.move x) = .val (ev e x).gd (ev e x).strip := rfl
@[push_cast] theorem op_assign : opO P ow d h e (.assign x) = .val (ev e x).gd (ev e x).strip := rfl
@[push_cast] theorem op_pick : opO P ow d h e (.pick z x y) = OR.and (ev e z).gd (vPick (ev e x) (ev e y) (ev e z).strip) := rfl
@[push_cast] theorem op_alloc : opO P ow d h e (.alloc t) = vAlloc P d t := rfl
@[push_cast] theorem op_box : opO P ow d h e (.box t x) = OR.and (ev e x).gd (vBox d (ev e x).strip) := rfl
@[push_cast] theorem op_build (ps : List (Nat × Operand)) : opO P ow d h e (.build t ⟨ps⟩) = OR.and (gdL (ps.map fun p => ev e p.2)) (vBuild P t (ps.map fun p => (p.1, (ev e p.2).strip))) := rfl
@[push_cast] theorem op_buildSlice (n : Nat) (ps : List (Nat × Operand)) : opO P ow d h e (.buildSlice t n ⟨ps⟩) = OR.and (gdL (ps.map fun p => ev e p.2)) (vBuildSlice P (ow d) d t n (ps.map fun p => (p.1, (ev e p.2).strip))) := rfl
@[push_cast] theorem op_load : opO P ow d h e (.load t x) = OR.and (ev e x).gd (vLoad P h t (ev e x).strip) := rfl
@[push_cast] theorem op_store : opO P ow d h e (.store t x y) = OR.and ((ev e x).gd ∧ (ev e y).gd) (vStore P h t (ev e y).strip (ev e x).strip) := rfl
@[push_cast] theorem op_nilCheck : opO P ow d h e (.nilCheck x) = OR.and (ev e x).gd (vNil h (ev e x).strip) := rfl
@[push_cast] theorem op_bin (op : BinOp) : opO P ow d h e (.binOp op t x y u) = OR.and ((ev e x).gd ∧ (ev e y).gd) (vBin P op t (ev e x).strip (ev e y).strip) := rfl
@[push_cast] theorem op_un (op : UnOp) : opO P ow d h e (.unOp op t x) = OR.and (ev e x).gd (vUn op (ev e x).strip) := rfl
@[push_cast] theorem op_convert : opO P ow d h e (.convert t u x) = OR.and (ev e x).gd (vConv P h d t u (ev e x).strip) := rfl
@[push_cast] theorem op_makeFunc (f : Fn) (a b : List Operand) : opO P ow d h e (.makeFunc f ⟨a⟩ ⟨b⟩) = .val (gdL (a.map (ev e)) ∧ gdL (b.map (ev e))) (.fn f (a.map fun x => (ev e x).strip) (b.map fun x => (ev e x).strip)) := rfl
@[push_cast] theorem op_makeSlice : opO P ow d h e (.makeSlice t x y) = OR.and ((ev e x).gd ∧ (ev e y).gd) (vMake P d t (ev e x).strip (ev e y).strip) := rfl
@[push_cast] theorem op_slice (lo hi mx : Option Operand) : opO P ow d h e (.slice t x lo hi mx) = OR.and ((ev e x).gd ∧ gdL ((lo.toList ++ hi.toList ++ mx.toList).map (ev e))) (vSlice P t (ev e x).strip (lo.map fun o => (ev e o).strip) (hi.map fun o => (ev e o).strip) (mx.map fun o => (ev e o).strip)) := rfl
@[push_cast] theorem op_fieldAddr (f : Nat) : opO P ow d h e (.fieldAddr t x f) = OR.and (ev e x).gd (vFieldAddr P h t f (ev e x).strip) := rfl
@[push_cast] theorem op_field (f : Nat) : opO P ow d h e (.field t x f) = OR.and (ev e x).gd (vField P t f (ev e x).strip) := rfl
@[push_cast] theorem op_indexAddr : opO P ow d h e (.indexAddr t x y) = OR.and ((ev e x).gd ∧ (ev e y).gd) (vIndexAddr P h t (ev e x).strip (ev e y).strip) := rfl
@[push_cast] theorem op_index : opO P ow d h e (.index t x y) = OR.and ((ev e x).gd ∧ (ev e y).gd) (vIndex P t (ev e x).strip (ev e y).strip) := rfl
@[push_cast] theorem op_extract (i : Nat) : opO P ow d h e (.extract x i) = OR.and (ev e x).gd (vExtract i (ev e x).strip) := rfl
@[push_cast] theorem op_callB (b : Builtin) (args : List Operand) (ts : Array TypeId) : opO P ow d h e (.call ⟨.builtin b, ⟨args⟩, ts⟩) = OR.and (gdL (args.map (ev e))) (vCall P h d ts (args.map fun x => (ev e x).strip) b) := rfl
@[push_cast] theorem op_callV (args : List Operand) (ts : Array TypeId) : opO P ow d h e (.call ⟨.value x, ⟨args⟩, ts⟩) = OR.and (gdL (args.map (ev e)) ∧ (ev e x).gd) (vCallV (args.map fun x => (ev e x).strip) (ev e x).strip) := rfl
end
def seqK (y : Code) (KK : Exit → St → Prop) : Exit → St → Prop := thn (fun s => exec c y s KK) KK
@[push_cast] theorem seqK_n (y : Code) : seqK c y KK .normal s = exec c y s KK := rfl
@[push_cast] theorem seqK_r (y : Code) : seqK c y KK .ret s = KK .ret s := rfl
@[push_cast] theorem seqK_e (y : Code) (i : Nat) : seqK c y KK (.exit i) s = KK (.exit i) s := rfl
@[push_cast] theorem exec_skip : exec c .skip s KK = KK .normal s := rfl
@[push_cast] theorem exec_label (i : Nat) : exec c (.label i) s KK = KK .normal s := rfl
@[push_cast] theorem exec_seq (x y : Code) : exec c (.seq x y) s KK = exec c x s (seqK c y KK) := rfl
@[push_cast] theorem exec_region (id : Nat) (ops : List Oper) : exec c (.region id ⟨ops⟩ false) s KK = opsRun c ops ops s (KK .normal) := rfl
@[push_cast] theorem exec_regionD (id : Nat) (ops : List Oper) : exec c (.region id ⟨ops⟩ true) s KK = anyRun (c.an id) c ops s (KK .normal) := rfl
@[push_cast] theorem exec_cond (x : Operand) (a b : Code) : exec c (.cond x a b) s KK = cndV (exec c a s KK) (exec c b s KK) (ev s.env x) := rfl
@[push_cast] theorem exec_block (id : Nat) (b : Code) : exec c (.block id b) s KK = exec c b s (blkK id KK) := rfl
@[push_cast] theorem exec_exit (i : Nat) : exec c (.exit i) s KK = KK (.exit i) s := rfl
@[push_cast] theorem exec_ret : exec c .ret s KK = KK .ret s := rfl
@[push_cast] theorem exec_loop (b : Code) : exec c (.loop b) s KK = LoopW c b s KK := rfl
@[push_cast] theorem blkK_n (id : Nat) : blkK id KK .normal s = KK .normal s := rfl
@[push_cast] theorem blkK_r (id : Nat) : blkK id KK .ret s = KK .ret s := rfl
@[push_cast] theorem blkK_e (id i : Nat) : blkK id KK (.exit i) s = if i = id then KK .normal s else KK (.exit i) s := by
  simp only [blkK]
  by_cases h : i = id
  · subst h; simp
  · have : Nat.beq i id = false := by
      cases hb : Nat.beq i id with
      | false => rfl
      | true => exact absurd (Nat.eq_of_beq_eq_true hb) h
    rw [this, if_neg h]; rfl
end
end Go.Abs
