import Derived.Test.YtppjlnagihefoaaDoorAbsA4
import Derived.Laws.Strings
import Derived.Laws.StructEq
namespace Go.Abs
open Go
variable {G : PG}
variable {P : Program} {d : Nat} {S : Sv}

abbrev VS (x : Sem Value) : Sem Next := do pure (.value (← x))
theorem run_VS {x : Sem Value} {u : Value} {w w' : World} (h : x.run P w = .ok u w') : (VS x).run P w = .ok (.value u) w' := by simp [VS, h]

theorem isI64_true {k : IntKind} (h : isI64 k = true) : k = .i64 := by cases k <;> simp_all [isI64]
theorem ok_arith (hs : Sim G S) (k : IntKind) (n : Int) {x : Sem Value} (h : x.run P S.w = .ok (.int k (k.wrap n)) S.w) : OkO G P d S (VS x) (vArith k n) := by
  unfold vArith
  cases hk : isI64 k with
  | true =>
    refine OkO.still hs fun hp => ⟨_, run_VS h, ?_⟩
    obtain rfl := isI64_true hk
    rw [wrap_i64 hp]
    exact .pure (.int _ _)
  | false => exact OkO.still hs fun _ => ⟨_, run_VS h, .pure (.int _ _)⟩

theorem ok_int (hs : Sim G S) (op : BinOp) (k : IntKind) (x y : Int) (t : TypeId) : OkO G P d S (VS (binOp op t (.int k x) (.int k y))) (vInt op k x y) := by
  cases op <;> simp only [vInt]
  case add => exact ok_arith hs k _ (by simp [binOp, Op.intArith])
  case sub => exact ok_arith hs k _ (by simp [binOp, Op.intArith])
  case mul => exact ok_arith hs k _ (by simp [binOp, Op.intArith])
  case quo =>
    have hrun : 0 ≤ x → 0 < y → (binOp .quo t (.int k x) (.int k y)).run P S.w = .ok (.int k (k.wrap (x / y))) S.w := fun h0 h1 => by
      have hy : ¬ y = 0 := by omega
      have e : x.tdiv y = x / y := by rw [Int.tdiv_eq_ediv_of_nonneg h0]
      simp [binOp, Op.intDiv, hy, e]
    cases hk : isI64 k with
    | true =>
      refine OkO.still hs fun ⟨h0, h1, h2⟩ => ⟨.int k (x / y), run_VS ?_, .pure (.int _ _)⟩
      have hle : x / y ≤ x := Int.ediv_le_self _ h0
      have hge : 0 ≤ x / y := Int.ediv_nonneg h0 (by omega)
      obtain rfl := isI64_true hk
      rw [hrun h0 h1, wrap_i64 (by unfold I64 at *; omega)]
    | false => exact OkO.still hs fun ⟨h0, h1⟩ => ⟨_, run_VS (hrun h0 h1), .pure (.int _ _)⟩
  case rem =>
    refine OkO.still hs fun ⟨h0, h1⟩ => ⟨.int k (x % y), run_VS ?_, .pure (.int _ _)⟩
    have hy : ¬ y = 0 := by omega
    have e : x.tmod y = x % y := Int.tmod_eq_emod_of_nonneg h0
    simp [binOp, Op.intDiv, hy, e]
  case and => exact OkO.still hs fun _ => ⟨_, run_VS (by simp only [binOp, ne_eq, not_true_eq_false, if_false, Op.intBits]; rfl), .pure (.int _ _)⟩
  case or => exact OkO.still hs fun _ => ⟨_, run_VS (by simp only [binOp, ne_eq, not_true_eq_false, if_false, Op.intBits]; rfl), .pure (.int _ _)⟩
  case xor => exact OkO.still hs fun _ => ⟨_, run_VS (by simp only [binOp, ne_eq, not_true_eq_false, if_false, Op.intBits]; rfl), .pure (.int _ _)⟩
  case andNot => exact OkO.still hs fun _ => ⟨_, run_VS (by simp only [binOp, ne_eq, not_true_eq_false, if_false, Op.intBits]; rfl), .pure (.int _ _)⟩
  case eql => exact OkO.still hs fun _ => ⟨_, run_VS (by simp [binOp, Op.intCmp]), .pure (.bool _)⟩
  case neq => exact OkO.still hs fun _ => ⟨_, run_VS (by simp [binOp, Op.intCmp]), .pure (.bool _)⟩
  case lss => exact OkO.still hs fun _ => ⟨_, run_VS (by simp [binOp, Op.intCmp]), .pure (.bool _)⟩
  case leq => exact OkO.still hs fun _ => ⟨_, run_VS (by simp [binOp, Op.intCmp]), .pure (.bool _)⟩
  case gtr => exact OkO.still hs fun _ => ⟨_, run_VS (by simp [binOp, Op.intCmp]), .pure (.bool _)⟩
  case geq => exact OkO.still hs fun _ => ⟨_, run_VS (by simp [binOp, Op.intCmp]), .pure (.bool _)⟩
  case shl => exact OkO.still hs fun hp => ⟨_, run_VS (by simp [binOp, Op.shift, show ¬ y < 0 by omega]), .pure (.int _ _)⟩
  case shr => exact OkO.still hs fun hp => ⟨_, run_VS (by simp [binOp, Op.shift, show ¬ y < 0 by omega]), .pure (.int _ _)⟩

theorem size_mk (x : List UInt8) : ByteArray.size ⟨x.toArray⟩ = x.length := by simp [ByteArray.size]
theorem toList_mk (x : List UInt8) : ByteArray.toList ⟨x.toArray⟩ = x := ByteArray.toList_mk x
theorem append_mk (x y : List UInt8) : (⟨x.toArray⟩ : ByteArray) ++ ⟨y.toArray⟩ = ⟨(x ++ y).toArray⟩ := by
  apply ByteArray.ext
  simp
theorem ok_str (hs : Sim G S) (op : BinOp) (x y : List UInt8) (t : TypeId) : OkO G P d S (VS (binOp op t (.string ⟨x.toArray⟩) (.string ⟨y.toArray⟩))) (vStr op x y) := by
  cases op <;> simp only [vStr]
  case add =>
    refine OkO.still hs fun hp => ⟨_, run_VS ?_, .pure (.str _)⟩
    have : ¬ ((x.length + y.length : Nat) : Int) > IntKind.i64.max := by
      have : IntKind.i64.max = 9223372036854775807 := by rfl
      omega
    simp only [binOp, Op.stringOp, size_mk, this, if_false, append_mk]
    rfl
  all_goals first
    | trivial
    | (refine OkO.still hs fun hp => ⟨_, run_VS ?_, .pure (.bool _)⟩
       simp only [binOp, Op.stringOp, toList_mk]
       rfl)
theorem equal_bool {t : TypeId} (h : P.underlying t = some .bool) (x y : Bool) (w : World) : (Op.equal t (.bool x) (.bool y)).run P w = .ok (x == y) w := by
  have aux : ∀ n, (Op.equalIn (n + 1) t (.bool x) (.bool y)).run P w = .ok (x == y) w := fun n => by simp [Op.equalIn, run_und h]
  exact aux 9999
theorem ok_bool (hs : Sim G S) (op : BinOp) (x y : Bool) (t : TypeId) : OkO G P d S (VS (binOp op t (.bool x) (.bool y))) (vBool op (ti P t) x y) := by
  unfold vBool
  split
  · rename_i h
    refine OkO.still hs fun hp => ⟨_, run_VS ?_, .pure (.bool _)⟩
    simp only [binOp, Sem.run_bind, equal_bool (und_bool h), Result.andThen_ok, Sem.run_pure]
  · rename_i h
    refine OkO.still hs fun hp => ⟨_, run_VS ?_, .pure (.bool _)⟩
    simp only [binOp, Sem.run_bind, equal_bool (und_bool h), Result.andThen_ok, Sem.run_pure]
  · trivial
end Go.Abs
