import Derived.Test.YtpoeanlndkgblaaGreatDoorAbsK2
import Derived.Test.YtpoeanlndkgblaaGreatDoorRows
import Derived.Lib.TrailingZeros
import Derived.Lib.ItoaNum
/- facts of this seat's program: its types and functions, by their numbers -/
namespace Go.Abs
open Go Go.Proofs
set_option maxRecDepth 100000
def tabs (w : World) : Prop := Lib.TabIs Tryz.prog w "internal/strconv.uint64pow10" .u64 Lib.pow10Tab ∧ Lib.TabIs Tryz.prog w "math/bits.deBruijn64tab" .u8 (Lib.deBruijn64tab.map fun (n : Nat) => (n : Int))
noncomputable def pg : PG := mkPG Tryz.prog 6 fun w => tabs w ∧ w.ShapedOpen Tryz.prog
theorem tabPow {w : World} (h : pg.ok w) : Lib.TabIs Tryz.prog w "internal/strconv.uint64pow10" .u64 Lib.pow10Tab := by
  obtain ⟨w0, ⟨h1, _⟩, h2⟩ := h
  exact tabIs_same (g := 0) (by kernel_rfl) (by decide) h2 h1.1
theorem tabDb64 {w : World} (h : pg.ok w) : Lib.TabIs Tryz.prog w "math/bits.deBruijn64tab" .u8 (Lib.deBruijn64tab.map fun (n : Nat) => (n : Int)) := by
  obtain ⟨w0, ⟨h1, _⟩, h2⟩ := h
  exact tabIs_same (g := 5) (by kernel_rfl) (by decide) h2 h1.2
theorem tabs_of {w : World} (l : List (String × DataW Unit)) (m0 : ("internal/strconv.uint64pow10", Lib.tabData .u64 Lib.pow10Tab) ∈ l) (m1 : ("math/bits.deBruijn64tab", Lib.tabData .u8 (Lib.deBruijn64tab.map fun (n : Nat) => (n : Int))) ∈ l) (h : laidMet Tryz.prog l w) : tabs w := ⟨laidMet_cells (g := 0) (t := 99) (e := 53) (n := 20) (by kernel_rfl) (by kernel_rfl) (by kernel_rfl) (by kernel_rfl) (by kernel_rfl) (by kernel_rfl) l m0 h, laidMet_cells (g := 5) (t := 119) (e := 5) (n := 64) (by kernel_rfl) (by kernel_rfl) (by kernel_rfl) (by kernel_rfl) (by kernel_rfl) (by kernel_rfl) l m1 h⟩

@[push_cast] theorem pg_prog : pg.prog = Tryz.prog := rfl
theorem fol : Tryz.prog.follows .mixedOrders = true := by kernel_rfl
@[push_cast] theorem t1 : ti Tryz.prog 1 = ⟨.func, 1, 8, some (.con .nilFunc)⟩ := by kernel_rfl
@[push_cast] theorem t2 : ti Tryz.prog 2 = ⟨(.int .i64), 1, 8, some (.int .i64 0)⟩ := by kernel_rfl
@[push_cast] theorem t3 : ti Tryz.prog 3 = ⟨(.int .i64), 1, 8, some (.int .i64 0)⟩ := by kernel_rfl
@[push_cast] theorem t4 : ti Tryz.prog 4 = ⟨.bool, 1, 1, some (.bool false)⟩ := by kernel_rfl
@[push_cast] theorem t5 : ti Tryz.prog 5 = ⟨(.int .u8), 1, 1, some (.int .u8 0)⟩ := by kernel_rfl
@[push_cast] theorem t6 : ti Tryz.prog 6 = ⟨(.int .u8), 1, 1, some (.int .u8 0)⟩ := by kernel_rfl
@[push_cast] theorem eq7 : EqOk Tryz.prog 7 = True := eq_true (eqOk_of (by kernel_rfl))
@[push_cast] theorem t7 : ti Tryz.prog 7 = ⟨(.struct [(0, 2), (1, 3), (2, 4), (3, 6)]), 4, 24, some (.agg [(.int .i64 0), (.int .i64 0), (.bool false), (.int .u8 0)])⟩ := by kernel_rfl
@[push_cast] theorem eq8 : EqOk Tryz.prog 8 = True := eq_true (eqOk_of (by kernel_rfl))
@[push_cast] theorem t8 : ti Tryz.prog 8 = ⟨(.struct [(0, 2), (1, 3), (2, 4), (3, 6)]), 4, 24, some (.agg [(.int .i64 0), (.int .i64 0), (.bool false), (.int .u8 0)])⟩ := by kernel_rfl
@[push_cast] theorem t9 : ti Tryz.prog 9 = ⟨.str, 1, 16, some (.str [])⟩ := by kernel_rfl
@[push_cast] theorem t10 : ti Tryz.prog 10 = ⟨.str, 1, 16, some (.str [])⟩ := by kernel_rfl
@[push_cast] theorem t11 : ti Tryz.prog 11 = ⟨.str, 1, 16, some (.str [])⟩ := by kernel_rfl
@[push_cast] theorem t12 : ti Tryz.prog 12 = ⟨(.int .u64), 1, 8, some (.int .u64 0)⟩ := by kernel_rfl
@[push_cast] theorem t13 : ti Tryz.prog 13 = ⟨(.struct [(0, 9), (1, 12)]), 2, 24, some (.agg [(.str []), (.int .u64 0)])⟩ := by kernel_rfl
@[push_cast] theorem t14 : ti Tryz.prog 14 = ⟨(.struct [(0, 9), (1, 12)]), 2, 24, some (.agg [(.str []), (.int .u64 0)])⟩ := by kernel_rfl
@[push_cast] theorem t15 : ti Tryz.prog 15 = ⟨(.ptr 121), 1, 8, some (.con (.pointer none))⟩ := by kernel_rfl
@[push_cast] theorem t16 : ti Tryz.prog 16 = ⟨(.ptr 124), 1, 8, some (.con (.pointer none))⟩ := by kernel_rfl
@[push_cast] theorem t17 : ti Tryz.prog 17 = ⟨(.ptr 131), 1, 8, some (.con (.pointer none))⟩ := by kernel_rfl
@[push_cast] theorem t18 : ti Tryz.prog 18 = ⟨(.struct [(0, 17)]), 1, 8, some (.agg [(.con (.pointer none))])⟩ := by kernel_rfl
@[push_cast] theorem t19 : ti Tryz.prog 19 = ⟨(.struct [(0, 17)]), 1, 8, some (.agg [(.con (.pointer none))])⟩ := by kernel_rfl
@[push_cast] theorem t20 : ti Tryz.prog 20 = ⟨.iface, 1, 16, some (.con .nilIface)⟩ := by kernel_rfl
@[push_cast] theorem t21 : ti Tryz.prog 21 = ⟨(.int .i32), 1, 4, some (.int .i32 0)⟩ := by kernel_rfl
@[push_cast] theorem t22 : ti Tryz.prog 22 = ⟨(.slice 42), 1, 24, some .nilsl⟩ := by kernel_rfl
@[push_cast] theorem t23 : ti Tryz.prog 23 = ⟨(.slice 5), 1, 24, some .nilsl⟩ := by kernel_rfl
@[push_cast] theorem t24 : ti Tryz.prog 24 = ⟨(.struct [(0, 3), (1, 9), (2, 9), (3, 3), (4, 9), (5, 22), (6, 23)]), 7, 112, some (.agg [(.int .i64 0), (.str []), (.str []), (.int .i64 0), (.str []), .nilsl, .nilsl])⟩ := by kernel_rfl
@[push_cast] theorem t25 : ti Tryz.prog 25 = ⟨(.struct [(0, 3), (1, 9), (2, 9), (3, 3), (4, 9), (5, 22), (6, 23)]), 7, 112, some (.agg [(.int .i64 0), (.str []), (.str []), (.int .i64 0), (.str []), .nilsl, .nilsl])⟩ := by kernel_rfl
@[push_cast] theorem t26 : ti Tryz.prog 26 = ⟨(.int .i64), 1, 8, some (.int .i64 0)⟩ := by kernel_rfl
@[push_cast] theorem t28 : ti Tryz.prog 28 = ⟨.func, 1, 8, some (.con .nilFunc)⟩ := by kernel_rfl
@[push_cast] theorem t30 : ti Tryz.prog 30 = ⟨.func, 1, 8, some (.con .nilFunc)⟩ := by kernel_rfl
@[push_cast] theorem t31 : ti Tryz.prog 31 = ⟨.func, 1, 8, some (.con .nilFunc)⟩ := by kernel_rfl
@[push_cast] theorem t32 : ti Tryz.prog 32 = ⟨.func, 1, 8, some (.con .nilFunc)⟩ := by kernel_rfl
@[push_cast] theorem t33 : ti Tryz.prog 33 = ⟨.func, 1, 8, some (.con .nilFunc)⟩ := by kernel_rfl
@[push_cast] theorem t34 : ti Tryz.prog 34 = ⟨.func, 1, 8, some (.con .nilFunc)⟩ := by kernel_rfl
@[push_cast] theorem t35 : ti Tryz.prog 35 = ⟨.func, 1, 8, some (.con .nilFunc)⟩ := by kernel_rfl
@[push_cast] theorem t36 : ti Tryz.prog 36 = ⟨.func, 1, 8, some (.con .nilFunc)⟩ := by kernel_rfl
@[push_cast] theorem t37 : ti Tryz.prog 37 = ⟨.func, 1, 8, some (.con .nilFunc)⟩ := by kernel_rfl
@[push_cast] theorem t38 : ti Tryz.prog 38 = ⟨.func, 1, 8, some (.con .nilFunc)⟩ := by kernel_rfl
@[push_cast] theorem t39 : ti Tryz.prog 39 = ⟨.func, 1, 8, some (.con .nilFunc)⟩ := by kernel_rfl
@[push_cast] theorem t40 : ti Tryz.prog 40 = ⟨.func, 1, 8, some (.con .nilFunc)⟩ := by kernel_rfl
@[push_cast] theorem eq41 : EqOk Tryz.prog 41 = True := eq_true (eqOk_of (by kernel_rfl))
@[push_cast] theorem t41 : ti Tryz.prog 41 = ⟨(.struct [(0, 9), (1, 9)]), 2, 32, some (.agg [(.str []), (.str [])])⟩ := by kernel_rfl
@[push_cast] theorem eq42 : EqOk Tryz.prog 42 = True := eq_true (eqOk_of (by kernel_rfl))
@[push_cast] theorem t42 : ti Tryz.prog 42 = ⟨(.struct [(0, 9), (1, 9)]), 2, 32, some (.agg [(.str []), (.str [])])⟩ := by kernel_rfl
@[push_cast] theorem t43 : ti Tryz.prog 43 = ⟨.func, 1, 8, some (.con .nilFunc)⟩ := by kernel_rfl
@[push_cast] theorem t44 : ti Tryz.prog 44 = ⟨(.slice 9), 1, 24, some .nilsl⟩ := by kernel_rfl
@[push_cast] theorem t45 : ti Tryz.prog 45 = ⟨.func, 1, 8, some (.con .nilFunc)⟩ := by kernel_rfl
@[push_cast] theorem t46 : ti Tryz.prog 46 = ⟨.func, 1, 8, some (.con .nilFunc)⟩ := by kernel_rfl
@[push_cast] theorem t47 : ti Tryz.prog 47 = ⟨.func, 1, 8, some (.con .nilFunc)⟩ := by kernel_rfl
@[push_cast] theorem t48 : ti Tryz.prog 48 = ⟨.func, 1, 8, some (.con .nilFunc)⟩ := by kernel_rfl
@[push_cast] theorem t49 : ti Tryz.prog 49 = ⟨.func, 1, 8, some (.con .nilFunc)⟩ := by kernel_rfl
@[push_cast] theorem t50 : ti Tryz.prog 50 = ⟨.func, 1, 8, some (.con .nilFunc)⟩ := by kernel_rfl
@[push_cast] theorem t51 : ti Tryz.prog 51 = ⟨.func, 1, 8, some (.con .nilFunc)⟩ := by kernel_rfl
@[push_cast] theorem t52 : ti Tryz.prog 52 = ⟨.func, 1, 8, some (.con .nilFunc)⟩ := by kernel_rfl
@[push_cast] theorem t53 : ti Tryz.prog 53 = ⟨(.int .u64), 1, 8, some (.int .u64 0)⟩ := by kernel_rfl
@[push_cast] theorem t54 : ti Tryz.prog 54 = ⟨.func, 1, 8, some (.con .nilFunc)⟩ := by kernel_rfl
@[push_cast] theorem t55 : ti Tryz.prog 55 = ⟨.func, 1, 8, some (.con .nilFunc)⟩ := by kernel_rfl
@[push_cast] theorem t56 : ti Tryz.prog 56 = ⟨.func, 1, 8, some (.con .nilFunc)⟩ := by kernel_rfl
@[push_cast] theorem t57 : ti Tryz.prog 57 = ⟨.func, 1, 8, some (.con .nilFunc)⟩ := by kernel_rfl
@[push_cast] theorem t58 : ti Tryz.prog 58 = ⟨.func, 1, 8, some (.con .nilFunc)⟩ := by kernel_rfl
@[push_cast] theorem t59 : ti Tryz.prog 59 = ⟨(.int .u64), 1, 8, some (.int .u64 0)⟩ := by kernel_rfl
@[push_cast] theorem t60 : ti Tryz.prog 60 = ⟨.func, 1, 8, some (.con .nilFunc)⟩ := by kernel_rfl
@[push_cast] theorem t61 : ti Tryz.prog 61 = ⟨(.arr 256 4), 256, 256, some (.agg [(.bool false), (.bool false), (.bool false), (.bool false), (.bool false), (.bool false), (.bool false), (.bool false), (.bool false), (.bool false), (.bool false), (.bool false), (.bool false), (.bool false), (.bool false), (.bool false), (.bool false), (.bool false), (.bool false), (.bool false), (.bool false), (.bool false), (.bool false), (.bool false), (.bool false), (.bool false), (.bool false), (.bool false), (.bool false), (.bool false), (.bool false), (.bool false), (.bool false), (.bool false), (.bool false), (.bool false), (.bool false), (.bool false), (.bool false), (.bool false), (.bool false), (.bool false), (.bool false), (.bool false), (.bool false), (.bool false), (.bool false), (.bool false), (.bool false), (.bool false), (.bool false), (.bool false), (.bool false), (.bool false), (.bool false), (.bool false), (.bool false), (.bool false), (.bool false), (.bool false), (.bool false), (.bool false), (.bool false), (.bool false), (.bool false), (.bool false), (.bool false), (.bool false), (.bool false), (.bool false), (.bool false), (.bool false), (.bool false), (.bool false), (.bool false), (.bool false), (.bool false), (.bool false), (.bool false), (.bool false), (.bool false), (.bool false), (.bool false), (.bool false), (.bool false), (.bool false), (.bool false), (.bool false), (.bool false), (.bool false), (.bool false), (.bool false), (.bool false), (.bool false), (.bool false), (.bool false), (.bool false), (.bool false), (.bool false), (.bool false), (.bool false), (.bool false), (.bool false), (.bool false), (.bool false), (.bool false), (.bool false), (.bool false), (.bool false), (.bool false), (.bool false), (.bool false), (.bool false), (.bool false), (.bool false), (.bool false), (.bool false), (.bool false), (.bool false), (.bool false), (.bool false), (.bool false), (.bool false), (.bool false), (.bool false), (.bool false), (.bool false), (.bool false), (.bool false), (.bool false), (.bool false), (.bool false), (.bool false), (.bool false), (.bool false), (.bool false), (.bool false), (.bool false), (.bool false), (.bool false), (.bool false), (.bool false), (.bool false), (.bool false), (.bool false), (.bool false), (.bool false), (.bool false), (.bool false), (.bool false), (.bool false), (.bool false), (.bool false), (.bool false), (.bool false), (.bool false), (.bool false), (.bool false), (.bool false), (.bool false), (.bool false), (.bool false), (.bool false), (.bool false), (.bool false), (.bool false), (.bool false), (.bool false), (.bool false), (.bool false), (.bool false), (.bool false), (.bool false), (.bool false), (.bool false), (.bool false), (.bool false), (.bool false), (.bool false), (.bool false), (.bool false), (.bool false), (.bool false), (.bool false), (.bool false), (.bool false), (.bool false), (.bool false), (.bool false), (.bool false), (.bool false), (.bool false), (.bool false), (.bool false), (.bool false), (.bool false), (.bool false), (.bool false), (.bool false), (.bool false), (.bool false), (.bool false), (.bool false), (.bool false), (.bool false), (.bool false), (.bool false), (.bool false), (.bool false), (.bool false), (.bool false), (.bool false), (.bool false), (.bool false), (.bool false), (.bool false), (.bool false), (.bool false), (.bool false), (.bool false), (.bool false), (.bool false), (.bool false), (.bool false), (.bool false), (.bool false), (.bool false), (.bool false), (.bool false), (.bool false), (.bool false), (.bool false), (.bool false), (.bool false), (.bool false), (.bool false), (.bool false), (.bool false), (.bool false), (.bool false), (.bool false), (.bool false), (.bool false), (.bool false), (.bool false), (.bool false), (.bool false), (.bool false), (.bool false), (.bool false), (.bool false), (.bool false), (.bool false), (.bool false), (.bool false), (.bool false)])⟩ := by kernel_rfl
@[push_cast] theorem t62 : ti Tryz.prog 62 = ⟨(.arr 256 4), 256, 256, some (.agg [(.bool false), (.bool false), (.bool false), (.bool false), (.bool false), (.bool false), (.bool false), (.bool false), (.bool false), (.bool false), (.bool false), (.bool false), (.bool false), (.bool false), (.bool false), (.bool false), (.bool false), (.bool false), (.bool false), (.bool false), (.bool false), (.bool false), (.bool false), (.bool false), (.bool false), (.bool false), (.bool false), (.bool false), (.bool false), (.bool false), (.bool false), (.bool false), (.bool false), (.bool false), (.bool false), (.bool false), (.bool false), (.bool false), (.bool false), (.bool false), (.bool false), (.bool false), (.bool false), (.bool false), (.bool false), (.bool false), (.bool false), (.bool false), (.bool false), (.bool false), (.bool false), (.bool false), (.bool false), (.bool false), (.bool false), (.bool false), (.bool false), (.bool false), (.bool false), (.bool false), (.bool false), (.bool false), (.bool false), (.bool false), (.bool false), (.bool false), (.bool false), (.bool false), (.bool false), (.bool false), (.bool false), (.bool false), (.bool false), (.bool false), (.bool false), (.bool false), (.bool false), (.bool false), (.bool false), (.bool false), (.bool false), (.bool false), (.bool false), (.bool false), (.bool false), (.bool false), (.bool false), (.bool false), (.bool false), (.bool false), (.bool false), (.bool false), (.bool false), (.bool false), (.bool false), (.bool false), (.bool false), (.bool false), (.bool false), (.bool false), (.bool false), (.bool false), (.bool false), (.bool false), (.bool false), (.bool false), (.bool false), (.bool false), (.bool false), (.bool false), (.bool false), (.bool false), (.bool false), (.bool false), (.bool false), (.bool false), (.bool false), (.bool false), (.bool false), (.bool false), (.bool false), (.bool false), (.bool false), (.bool false), (.bool false), (.bool false), (.bool false), (.bool false), (.bool false), (.bool false), (.bool false), (.bool false), (.bool false), (.bool false), (.bool false), (.bool false), (.bool false), (.bool false), (.bool false), (.bool false), (.bool false), (.bool false), (.bool false), (.bool false), (.bool false), (.bool false), (.bool false), (.bool false), (.bool false), (.bool false), (.bool false), (.bool false), (.bool false), (.bool false), (.bool false), (.bool false), (.bool false), (.bool false), (.bool false), (.bool false), (.bool false), (.bool false), (.bool false), (.bool false), (.bool false), (.bool false), (.bool false), (.bool false), (.bool false), (.bool false), (.bool false), (.bool false), (.bool false), (.bool false), (.bool false), (.bool false), (.bool false), (.bool false), (.bool false), (.bool false), (.bool false), (.bool false), (.bool false), (.bool false), (.bool false), (.bool false), (.bool false), (.bool false), (.bool false), (.bool false), (.bool false), (.bool false), (.bool false), (.bool false), (.bool false), (.bool false), (.bool false), (.bool false), (.bool false), (.bool false), (.bool false), (.bool false), (.bool false), (.bool false), (.bool false), (.bool false), (.bool false), (.bool false), (.bool false), (.bool false), (.bool false), (.bool false), (.bool false), (.bool false), (.bool false), (.bool false), (.bool false), (.bool false), (.bool false), (.bool false), (.bool false), (.bool false), (.bool false), (.bool false), (.bool false), (.bool false), (.bool false), (.bool false), (.bool false), (.bool false), (.bool false), (.bool false), (.bool false), (.bool false), (.bool false), (.bool false), (.bool false), (.bool false), (.bool false), (.bool false), (.bool false), (.bool false), (.bool false), (.bool false), (.bool false), (.bool false), (.bool false), (.bool false), (.bool false), (.bool false), (.bool false), (.bool false), (.bool false), (.bool false), (.bool false), (.bool false)])⟩ := by kernel_rfl
@[push_cast] theorem t64 : ti Tryz.prog 64 = ⟨.func, 1, 8, some (.con .nilFunc)⟩ := by kernel_rfl
@[push_cast] theorem t65 : ti Tryz.prog 65 = ⟨.func, 1, 8, some (.con .nilFunc)⟩ := by kernel_rfl
@[push_cast] theorem t66 : ti Tryz.prog 66 = ⟨(.ptr 62), 1, 8, some (.con (.pointer none))⟩ := by kernel_rfl
@[push_cast] theorem t67 : ti Tryz.prog 67 = ⟨.func, 1, 8, some (.con .nilFunc)⟩ := by kernel_rfl
@[push_cast] theorem eq68 : EqOk Tryz.prog 68 = True := eq_true (eqOk_of (by kernel_rfl))
@[push_cast] theorem t68 : ti Tryz.prog 68 = ⟨(.struct [(0, 3), (1, 3), (2, 3), (3, 3), (4, 3), (5, 3)]), 6, 48, some (.agg [(.int .i64 0), (.int .i64 0), (.int .i64 0), (.int .i64 0), (.int .i64 0), (.int .i64 0)])⟩ := by kernel_rfl
@[push_cast] theorem eq69 : EqOk Tryz.prog 69 = True := eq_true (eqOk_of (by kernel_rfl))
@[push_cast] theorem t69 : ti Tryz.prog 69 = ⟨(.struct [(0, 3), (1, 3), (2, 3), (3, 3), (4, 3), (5, 3)]), 6, 48, some (.agg [(.int .i64 0), (.int .i64 0), (.int .i64 0), (.int .i64 0), (.int .i64 0), (.int .i64 0)])⟩ := by kernel_rfl
@[push_cast] theorem t70 : ti Tryz.prog 70 = ⟨.func, 1, 8, some (.con .nilFunc)⟩ := by kernel_rfl
@[push_cast] theorem t71 : ti Tryz.prog 71 = ⟨.func, 1, 8, some (.con .nilFunc)⟩ := by kernel_rfl
@[push_cast] theorem t72 : ti Tryz.prog 72 = ⟨.func, 1, 8, some (.con .nilFunc)⟩ := by kernel_rfl
@[push_cast] theorem t73 : ti Tryz.prog 73 = ⟨(.slice 3), 1, 24, some .nilsl⟩ := by kernel_rfl
@[push_cast] theorem t74 : ti Tryz.prog 74 = ⟨.func, 1, 8, some (.con .nilFunc)⟩ := by kernel_rfl
@[push_cast] theorem t76 : ti Tryz.prog 76 = ⟨.func, 1, 8, some (.con .nilFunc)⟩ := by kernel_rfl
@[push_cast] theorem t77 : ti Tryz.prog 77 = ⟨.func, 1, 8, some (.con .nilFunc)⟩ := by kernel_rfl
@[push_cast] theorem t78 : ti Tryz.prog 78 = ⟨.func, 1, 8, some (.con .nilFunc)⟩ := by kernel_rfl
@[push_cast] theorem t79 : ti Tryz.prog 79 = ⟨(.arr 24 5), 24, 24, some (.agg [(.int .u8 0), (.int .u8 0), (.int .u8 0), (.int .u8 0), (.int .u8 0), (.int .u8 0), (.int .u8 0), (.int .u8 0), (.int .u8 0), (.int .u8 0), (.int .u8 0), (.int .u8 0), (.int .u8 0), (.int .u8 0), (.int .u8 0), (.int .u8 0), (.int .u8 0), (.int .u8 0), (.int .u8 0), (.int .u8 0), (.int .u8 0), (.int .u8 0), (.int .u8 0), (.int .u8 0)])⟩ := by kernel_rfl
@[push_cast] theorem t80 : ti Tryz.prog 80 = ⟨.func, 1, 8, some (.con .nilFunc)⟩ := by kernel_rfl
@[push_cast] theorem t81 : ti Tryz.prog 81 = ⟨.func, 1, 8, some (.con .nilFunc)⟩ := by kernel_rfl
@[push_cast] theorem t83 : ti Tryz.prog 83 = ⟨.func, 1, 8, some (.con .nilFunc)⟩ := by kernel_rfl
@[push_cast] theorem t84 : ti Tryz.prog 84 = ⟨.func, 1, 8, some (.con .nilFunc)⟩ := by kernel_rfl
@[push_cast] theorem t86 : ti Tryz.prog 86 = ⟨.func, 1, 8, some (.con .nilFunc)⟩ := by kernel_rfl
@[push_cast] theorem t87 : ti Tryz.prog 87 = ⟨.func, 1, 8, some (.con .nilFunc)⟩ := by kernel_rfl
@[push_cast] theorem t88 : ti Tryz.prog 88 = ⟨(.ptr 90), 1, 8, some (.con (.pointer none))⟩ := by kernel_rfl
@[push_cast] theorem t89 : ti Tryz.prog 89 = ⟨(.struct [(0, 88), (1, 23)]), 2, 32, some (.agg [(.con (.pointer none)), .nilsl])⟩ := by kernel_rfl
@[push_cast] theorem t90 : ti Tryz.prog 90 = ⟨(.struct [(0, 88), (1, 23)]), 2, 32, some (.agg [(.con (.pointer none)), .nilsl])⟩ := by kernel_rfl
@[push_cast] theorem t91 : ti Tryz.prog 91 = ⟨.func, 1, 8, some (.con .nilFunc)⟩ := by kernel_rfl
@[push_cast] theorem t92 : ti Tryz.prog 92 = ⟨.iface, 1, 16, some (.con .nilIface)⟩ := by kernel_rfl
@[push_cast] theorem t93 : ti Tryz.prog 93 = ⟨.iface, 1, 16, some (.con .nilIface)⟩ := by kernel_rfl
@[push_cast] theorem t95 : ti Tryz.prog 95 = ⟨.func, 1, 8, some (.con .nilFunc)⟩ := by kernel_rfl
@[push_cast] theorem t96 : ti Tryz.prog 96 = ⟨.func, 1, 8, some (.con .nilFunc)⟩ := by kernel_rfl
@[push_cast] theorem t97 : ti Tryz.prog 97 = ⟨.func, 1, 8, some (.con .nilFunc)⟩ := by kernel_rfl
@[push_cast] theorem t98 : ti Tryz.prog 98 = ⟨.func, 1, 8, some (.con .nilFunc)⟩ := by kernel_rfl
@[push_cast] theorem t99 : ti Tryz.prog 99 = ⟨(.arr 20 53), 20, 160, some (.agg [(.int .u64 0), (.int .u64 0), (.int .u64 0), (.int .u64 0), (.int .u64 0), (.int .u64 0), (.int .u64 0), (.int .u64 0), (.int .u64 0), (.int .u64 0), (.int .u64 0), (.int .u64 0), (.int .u64 0), (.int .u64 0), (.int .u64 0), (.int .u64 0), (.int .u64 0), (.int .u64 0), (.int .u64 0), (.int .u64 0)])⟩ := by kernel_rfl
@[push_cast] theorem t100 : ti Tryz.prog 100 = ⟨(.int .u32), 1, 4, some (.int .u32 0)⟩ := by kernel_rfl
@[push_cast] theorem t101 : ti Tryz.prog 101 = ⟨(.arr 65 5), 65, 65, some (.agg [(.int .u8 0), (.int .u8 0), (.int .u8 0), (.int .u8 0), (.int .u8 0), (.int .u8 0), (.int .u8 0), (.int .u8 0), (.int .u8 0), (.int .u8 0), (.int .u8 0), (.int .u8 0), (.int .u8 0), (.int .u8 0), (.int .u8 0), (.int .u8 0), (.int .u8 0), (.int .u8 0), (.int .u8 0), (.int .u8 0), (.int .u8 0), (.int .u8 0), (.int .u8 0), (.int .u8 0), (.int .u8 0), (.int .u8 0), (.int .u8 0), (.int .u8 0), (.int .u8 0), (.int .u8 0), (.int .u8 0), (.int .u8 0), (.int .u8 0), (.int .u8 0), (.int .u8 0), (.int .u8 0), (.int .u8 0), (.int .u8 0), (.int .u8 0), (.int .u8 0), (.int .u8 0), (.int .u8 0), (.int .u8 0), (.int .u8 0), (.int .u8 0), (.int .u8 0), (.int .u8 0), (.int .u8 0), (.int .u8 0), (.int .u8 0), (.int .u8 0), (.int .u8 0), (.int .u8 0), (.int .u8 0), (.int .u8 0), (.int .u8 0), (.int .u8 0), (.int .u8 0), (.int .u8 0), (.int .u8 0), (.int .u8 0), (.int .u8 0), (.int .u8 0), (.int .u8 0), (.int .u8 0)])⟩ := by kernel_rfl
@[push_cast] theorem t102 : ti Tryz.prog 102 = ⟨.func, 1, 8, some (.con .nilFunc)⟩ := by kernel_rfl
@[push_cast] theorem t103 : ti Tryz.prog 103 = ⟨(.arr 256 5), 256, 256, some (.agg [(.int .u8 0), (.int .u8 0), (.int .u8 0), (.int .u8 0), (.int .u8 0), (.int .u8 0), (.int .u8 0), (.int .u8 0), (.int .u8 0), (.int .u8 0), (.int .u8 0), (.int .u8 0), (.int .u8 0), (.int .u8 0), (.int .u8 0), (.int .u8 0), (.int .u8 0), (.int .u8 0), (.int .u8 0), (.int .u8 0), (.int .u8 0), (.int .u8 0), (.int .u8 0), (.int .u8 0), (.int .u8 0), (.int .u8 0), (.int .u8 0), (.int .u8 0), (.int .u8 0), (.int .u8 0), (.int .u8 0), (.int .u8 0), (.int .u8 0), (.int .u8 0), (.int .u8 0), (.int .u8 0), (.int .u8 0), (.int .u8 0), (.int .u8 0), (.int .u8 0), (.int .u8 0), (.int .u8 0), (.int .u8 0), (.int .u8 0), (.int .u8 0), (.int .u8 0), (.int .u8 0), (.int .u8 0), (.int .u8 0), (.int .u8 0), (.int .u8 0), (.int .u8 0), (.int .u8 0), (.int .u8 0), (.int .u8 0), (.int .u8 0), (.int .u8 0), (.int .u8 0), (.int .u8 0), (.int .u8 0), (.int .u8 0), (.int .u8 0), (.int .u8 0), (.int .u8 0), (.int .u8 0), (.int .u8 0), (.int .u8 0), (.int .u8 0), (.int .u8 0), (.int .u8 0), (.int .u8 0), (.int .u8 0), (.int .u8 0), (.int .u8 0), (.int .u8 0), (.int .u8 0), (.int .u8 0), (.int .u8 0), (.int .u8 0), (.int .u8 0), (.int .u8 0), (.int .u8 0), (.int .u8 0), (.int .u8 0), (.int .u8 0), (.int .u8 0), (.int .u8 0), (.int .u8 0), (.int .u8 0), (.int .u8 0), (.int .u8 0), (.int .u8 0), (.int .u8 0), (.int .u8 0), (.int .u8 0), (.int .u8 0), (.int .u8 0), (.int .u8 0), (.int .u8 0), (.int .u8 0), (.int .u8 0), (.int .u8 0), (.int .u8 0), (.int .u8 0), (.int .u8 0), (.int .u8 0), (.int .u8 0), (.int .u8 0), (.int .u8 0), (.int .u8 0), (.int .u8 0), (.int .u8 0), (.int .u8 0), (.int .u8 0), (.int .u8 0), (.int .u8 0), (.int .u8 0), (.int .u8 0), (.int .u8 0), (.int .u8 0), (.int .u8 0), (.int .u8 0), (.int .u8 0), (.int .u8 0), (.int .u8 0), (.int .u8 0), (.int .u8 0), (.int .u8 0), (.int .u8 0), (.int .u8 0), (.int .u8 0), (.int .u8 0), (.int .u8 0), (.int .u8 0), (.int .u8 0), (.int .u8 0), (.int .u8 0), (.int .u8 0), (.int .u8 0), (.int .u8 0), (.int .u8 0), (.int .u8 0), (.int .u8 0), (.int .u8 0), (.int .u8 0), (.int .u8 0), (.int .u8 0), (.int .u8 0), (.int .u8 0), (.int .u8 0), (.int .u8 0), (.int .u8 0), (.int .u8 0), (.int .u8 0), (.int .u8 0), (.int .u8 0), (.int .u8 0), (.int .u8 0), (.int .u8 0), (.int .u8 0), (.int .u8 0), (.int .u8 0), (.int .u8 0), (.int .u8 0), (.int .u8 0), (.int .u8 0), (.int .u8 0), (.int .u8 0), (.int .u8 0), (.int .u8 0), (.int .u8 0), (.int .u8 0), (.int .u8 0), (.int .u8 0), (.int .u8 0), (.int .u8 0), (.int .u8 0), (.int .u8 0), (.int .u8 0), (.int .u8 0), (.int .u8 0), (.int .u8 0), (.int .u8 0), (.int .u8 0), (.int .u8 0), (.int .u8 0), (.int .u8 0), (.int .u8 0), (.int .u8 0), (.int .u8 0), (.int .u8 0), (.int .u8 0), (.int .u8 0), (.int .u8 0), (.int .u8 0), (.int .u8 0), (.int .u8 0), (.int .u8 0), (.int .u8 0), (.int .u8 0), (.int .u8 0), (.int .u8 0), (.int .u8 0), (.int .u8 0), (.int .u8 0), (.int .u8 0), (.int .u8 0), (.int .u8 0), (.int .u8 0), (.int .u8 0), (.int .u8 0), (.int .u8 0), (.int .u8 0), (.int .u8 0), (.int .u8 0), (.int .u8 0), (.int .u8 0), (.int .u8 0), (.int .u8 0), (.int .u8 0), (.int .u8 0), (.int .u8 0), (.int .u8 0), (.int .u8 0), (.int .u8 0), (.int .u8 0), (.int .u8 0), (.int .u8 0), (.int .u8 0), (.int .u8 0), (.int .u8 0), (.int .u8 0), (.int .u8 0), (.int .u8 0), (.int .u8 0), (.int .u8 0), (.int .u8 0), (.int .u8 0), (.int .u8 0), (.int .u8 0), (.int .u8 0), (.int .u8 0), (.int .u8 0), (.int .u8 0), (.int .u8 0), (.int .u8 0), (.int .u8 0), (.int .u8 0), (.int .u8 0), (.int .u8 0), (.int .u8 0), (.int .u8 0), (.int .u8 0), (.int .u8 0), (.int .u8 0), (.int .u8 0)])⟩ := by kernel_rfl
@[push_cast] theorem eq104 : EqOk Tryz.prog 104 = True := eq_true (eqOk_of (by kernel_rfl))
@[push_cast] theorem t104 : ti Tryz.prog 104 = ⟨(.struct [(0, 5), (1, 5)]), 2, 2, some (.agg [(.int .u8 0), (.int .u8 0)])⟩ := by kernel_rfl
@[push_cast] theorem eq105 : EqOk Tryz.prog 105 = True := eq_true (eqOk_of (by kernel_rfl))
@[push_cast] theorem t105 : ti Tryz.prog 105 = ⟨(.struct [(0, 5), (1, 5)]), 2, 2, some (.agg [(.int .u8 0), (.int .u8 0)])⟩ := by kernel_rfl
@[push_cast] theorem t106 : ti Tryz.prog 106 = ⟨(.arr 16 105), 32, 32, some (.agg [(.int .u8 0), (.int .u8 0), (.int .u8 0), (.int .u8 0), (.int .u8 0), (.int .u8 0), (.int .u8 0), (.int .u8 0), (.int .u8 0), (.int .u8 0), (.int .u8 0), (.int .u8 0), (.int .u8 0), (.int .u8 0), (.int .u8 0), (.int .u8 0), (.int .u8 0), (.int .u8 0), (.int .u8 0), (.int .u8 0), (.int .u8 0), (.int .u8 0), (.int .u8 0), (.int .u8 0), (.int .u8 0), (.int .u8 0), (.int .u8 0), (.int .u8 0), (.int .u8 0), (.int .u8 0), (.int .u8 0), (.int .u8 0)])⟩ := by kernel_rfl
@[push_cast] theorem t107 : ti Tryz.prog 107 = ⟨.func, 1, 8, some (.con .nilFunc)⟩ := by kernel_rfl
@[push_cast] theorem t108 : ti Tryz.prog 108 = ⟨.func, 1, 8, some (.con .nilFunc)⟩ := by kernel_rfl
@[push_cast] theorem t110 : ti Tryz.prog 110 = ⟨.func, 1, 8, some (.con .nilFunc)⟩ := by kernel_rfl
@[push_cast] theorem t112 : ti Tryz.prog 112 = ⟨.func, 1, 8, some (.con .nilFunc)⟩ := by kernel_rfl
@[push_cast] theorem t113 : ti Tryz.prog 113 = ⟨(.ptr 5), 1, 8, some (.con (.pointer none))⟩ := by kernel_rfl
@[push_cast] theorem t114 : ti Tryz.prog 114 = ⟨.func, 1, 8, some (.con .nilFunc)⟩ := by kernel_rfl
@[push_cast] theorem t115 : ti Tryz.prog 115 = ⟨.other, 1, 8, some (.con (.pointer none))⟩ := by kernel_rfl
@[push_cast] theorem t116 : ti Tryz.prog 116 = ⟨.func, 1, 8, some (.con .nilFunc)⟩ := by kernel_rfl
@[push_cast] theorem t117 : ti Tryz.prog 117 = ⟨.func, 1, 8, some (.con .nilFunc)⟩ := by kernel_rfl
@[push_cast] theorem t118 : ti Tryz.prog 118 = ⟨(.arr 32 5), 32, 32, some (.agg [(.int .u8 0), (.int .u8 0), (.int .u8 0), (.int .u8 0), (.int .u8 0), (.int .u8 0), (.int .u8 0), (.int .u8 0), (.int .u8 0), (.int .u8 0), (.int .u8 0), (.int .u8 0), (.int .u8 0), (.int .u8 0), (.int .u8 0), (.int .u8 0), (.int .u8 0), (.int .u8 0), (.int .u8 0), (.int .u8 0), (.int .u8 0), (.int .u8 0), (.int .u8 0), (.int .u8 0), (.int .u8 0), (.int .u8 0), (.int .u8 0), (.int .u8 0), (.int .u8 0), (.int .u8 0), (.int .u8 0), (.int .u8 0)])⟩ := by kernel_rfl
@[push_cast] theorem t119 : ti Tryz.prog 119 = ⟨(.arr 64 5), 64, 64, some (.agg [(.int .u8 0), (.int .u8 0), (.int .u8 0), (.int .u8 0), (.int .u8 0), (.int .u8 0), (.int .u8 0), (.int .u8 0), (.int .u8 0), (.int .u8 0), (.int .u8 0), (.int .u8 0), (.int .u8 0), (.int .u8 0), (.int .u8 0), (.int .u8 0), (.int .u8 0), (.int .u8 0), (.int .u8 0), (.int .u8 0), (.int .u8 0), (.int .u8 0), (.int .u8 0), (.int .u8 0), (.int .u8 0), (.int .u8 0), (.int .u8 0), (.int .u8 0), (.int .u8 0), (.int .u8 0), (.int .u8 0), (.int .u8 0), (.int .u8 0), (.int .u8 0), (.int .u8 0), (.int .u8 0), (.int .u8 0), (.int .u8 0), (.int .u8 0), (.int .u8 0), (.int .u8 0), (.int .u8 0), (.int .u8 0), (.int .u8 0), (.int .u8 0), (.int .u8 0), (.int .u8 0), (.int .u8 0), (.int .u8 0), (.int .u8 0), (.int .u8 0), (.int .u8 0), (.int .u8 0), (.int .u8 0), (.int .u8 0), (.int .u8 0), (.int .u8 0), (.int .u8 0), (.int .u8 0), (.int .u8 0), (.int .u8 0), (.int .u8 0), (.int .u8 0), (.int .u8 0)])⟩ := by kernel_rfl
@[push_cast] theorem t120 : ti Tryz.prog 120 = ⟨(.struct [(0, 17), (1, 17), (2, 17), (3, 9)]), 4, 40, some (.agg [(.con (.pointer none)), (.con (.pointer none)), (.con (.pointer none)), (.str [])])⟩ := by kernel_rfl
@[push_cast] theorem t121 : ti Tryz.prog 121 = ⟨(.struct [(0, 17), (1, 17), (2, 17), (3, 9)]), 4, 40, some (.agg [(.con (.pointer none)), (.con (.pointer none)), (.con (.pointer none)), (.str [])])⟩ := by kernel_rfl
@[push_cast] theorem t122 : ti Tryz.prog 122 = ⟨(.arr 0 16), 0, 0, some (.agg [])⟩ := by kernel_rfl
@[push_cast] theorem t123 : ti Tryz.prog 123 = ⟨(.struct [(0, 122)]), 0, 0, some (.agg [])⟩ := by kernel_rfl
@[push_cast] theorem t124 : ti Tryz.prog 124 = ⟨(.struct [(0, 122)]), 0, 0, some (.agg [])⟩ := by kernel_rfl
@[push_cast] theorem t125 : ti Tryz.prog 125 = ⟨(.int .u8), 1, 1, some (.int .u8 0)⟩ := by kernel_rfl
@[push_cast] theorem t126 : ti Tryz.prog 126 = ⟨(.int .u8), 1, 1, some (.int .u8 0)⟩ := by kernel_rfl
@[push_cast] theorem t127 : ti Tryz.prog 127 = ⟨.func, 1, 8, some (.con .nilFunc)⟩ := by kernel_rfl
@[push_cast] theorem t128 : ti Tryz.prog 128 = ⟨(.int .i32), 1, 4, some (.int .i32 0)⟩ := by kernel_rfl
@[push_cast] theorem t129 : ti Tryz.prog 129 = ⟨(.int .i32), 1, 4, some (.int .i32 0)⟩ := by kernel_rfl
@[push_cast] theorem t130 : ti Tryz.prog 130 = ⟨(.struct [(0, 12), (1, 12), (2, 100), (3, 125), (4, 5), (5, 5), (6, 126), (7, 127), (8, 113), (9, 128), (10, 129)]), 11, 48, some (.agg [(.int .u64 0), (.int .u64 0), (.int .u32 0), (.int .u8 0), (.int .u8 0), (.int .u8 0), (.int .u8 0), (.con .nilFunc), (.con (.pointer none)), (.int .i32 0), (.int .i32 0)])⟩ := by kernel_rfl
@[push_cast] theorem t131 : ti Tryz.prog 131 = ⟨(.struct [(0, 12), (1, 12), (2, 100), (3, 125), (4, 5), (5, 5), (6, 126), (7, 127), (8, 113), (9, 128), (10, 129)]), 11, 48, some (.agg [(.int .u64 0), (.int .u64 0), (.int .u32 0), (.int .u8 0), (.int .u8 0), (.int .u8 0), (.int .u8 0), (.con .nilFunc), (.con (.pointer none)), (.int .i32 0), (.int .i32 0)])⟩ := by kernel_rfl
theorem n2 : Tryz.prog.funcs[2]? = some Tryz.f2 := by kernel_rfl
theorem e2 : entB Tryz.prog 2 = true := by kernel_rfl
theorem o2 : bodyOk (anL []) Tryz.f2 = true := by kernel_rfl
theorem n3 : Tryz.prog.funcs[3]? = some Tryz.f3 := by kernel_rfl
theorem e3 : entB Tryz.prog 3 = true := by kernel_rfl
theorem o3 : bodyOk (anL [(5, [0, 1, 0, 7, 15, 31, 63, 63, 255, 511, 1023, 2047, 2047, 8191, 16383, 32767, 65535, 65535, 262143, 524287, 1048575, 2097151, 2097151, 8388607, 16777215, 33554431, 67108863, 134217727, 268435455])]) Tryz.f3 = true := by kernel_rfl
theorem w3 {ct : Ct} (ow : Nat → Bool) (ad : List Adj) {code : Code} (hb : Tryz.f3.body = some code) (hc : CtOk pg ct) {args : List V} {r : V} (ha : Nat.ble args.length 59 = true) (hr : r.noId = true) (h : exec ⟨pg, ct, ow, 59, anL [(5, [0, 1, 0, 7, 15, 31, 63, 63, 255, 511, 1023, 2047, 2047, 8191, 16383, 32767, 65535, 65535, 262143, 524287, 1048575, 2097151, 2097151, 8388607, 16777215, 33554431, 67108863, 134217727, 268435455])]⟩ code ⟨argE args, hOf []⟩ (PostF pg.prog ad [.tmp 2] r [])) : PCall pg 3 args r := pcall_inF ad hc fol 3 n3 hb rfl e3 rfl (bodyOk_at o3 hb rfl) ha hr h
theorem n4 : Tryz.prog.funcs[4]? = some Tryz.f4 := by kernel_rfl
theorem e4 : entB Tryz.prog 4 = true := by kernel_rfl
theorem o4 : bodyOk (anL []) Tryz.f4 = true := by kernel_rfl
theorem w4 {ct : Ct} (ow : Nat → Bool) (ad : List Adj) {code : Code} (hb : Tryz.f4.body = some code) (hc : CtOk pg ct) {args : List V} {r : V} (ha : Nat.ble args.length 12 = true) (hr : r.noId = true) (h : exec ⟨pg, ct, ow, 12, anL []⟩ code ⟨argE args, hOf []⟩ (PostF pg.prog ad [.tmp 2, .tmp 3] r [])) : PCall pg 4 args r := pcall_inF ad hc fol 4 n4 hb rfl e4 rfl (bodyOk_at o4 hb rfl) ha hr h
theorem n5 : Tryz.prog.funcs[5]? = some Tryz.f5 := by kernel_rfl
theorem e5 : entB Tryz.prog 5 = true := by kernel_rfl
theorem o5 : bodyOk (anL []) Tryz.f5 = true := by kernel_rfl
theorem w5 {ct : Ct} (ow : Nat → Bool) (ad : List Adj) {code : Code} (hb : Tryz.f5.body = some code) (hc : CtOk pg ct) {args : List V} {r : V} (ha : Nat.ble args.length 12 = true) (hr : r.noId = true) (h : exec ⟨pg, ct, ow, 12, anL []⟩ code ⟨argE args, hOf []⟩ (PostF pg.prog ad [.tmp 2, .tmp 3] r [])) : PCall pg 5 args r := pcall_inF ad hc fol 5 n5 hb rfl e5 rfl (bodyOk_at o5 hb rfl) ha hr h
theorem n6 : Tryz.prog.funcs[6]? = some Tryz.f6 := by kernel_rfl
theorem e6 : entB Tryz.prog 6 = true := by kernel_rfl
theorem o6 : bodyOk (anL []) Tryz.f6 = true := by kernel_rfl
theorem w6 {ct : Ct} (ow : Nat → Bool) (ad : List Adj) {code : Code} (hb : Tryz.f6.body = some code) (hc : CtOk pg ct) {args : List V} {r : V} (ha : Nat.ble args.length 13 = true) (hr : r.noId = true) (h : exec ⟨pg, ct, ow, 13, anL []⟩ code ⟨argE args, hOf []⟩ (PostF pg.prog ad [.tmp 2, .tmp 3] r [])) : PCall pg 6 args r := pcall_inF ad hc fol 6 n6 hb rfl e6 rfl (bodyOk_at o6 hb rfl) ha hr h
theorem n7 : Tryz.prog.funcs[7]? = some Tryz.f7 := by kernel_rfl
theorem e7 : entB Tryz.prog 7 = true := by kernel_rfl
theorem o7 : bodyOk (anL []) Tryz.f7 = true := by kernel_rfl
theorem w7 {ct : Ct} (ow : Nat → Bool) (ad : List Adj) {code : Code} (hb : Tryz.f7.body = some code) (hc : CtOk pg ct) {args : List V} {r : V} (ha : Nat.ble args.length 13 = true) (hr : r.noId = true) (h : exec ⟨pg, ct, ow, 13, anL []⟩ code ⟨argE args, hOf []⟩ (PostF pg.prog ad [.tmp 2, .tmp 3] r [])) : PCall pg 7 args r := pcall_inF ad hc fol 7 n7 hb rfl e7 rfl (bodyOk_at o7 hb rfl) ha hr h
theorem n8 : Tryz.prog.funcs[8]? = some Tryz.f8 := by kernel_rfl
theorem e8 : entB Tryz.prog 8 = true := by kernel_rfl
theorem o8 : bodyOk (anL [(21, [0, 0, 2, 7, 15])]) Tryz.f8 = true := by kernel_rfl
theorem w8 {ct : Ct} (ow : Nat → Bool) (ad : List Adj) {code : Code} (hb : Tryz.f8.body = some code) (hc : CtOk pg ct) {args : List V} {r : V} (ha : Nat.ble args.length 105 = true) (hr : r.noId = true) (h : exec ⟨pg, ct, ow, 105, anL [(21, [0, 0, 2, 7, 15])]⟩ code ⟨argE args, hOf []⟩ (PostF pg.prog ad [.tmp 2] r [])) : PCall pg 8 args r := pcall_inF ad hc fol 8 n8 hb rfl e8 rfl (bodyOk_at o8 hb rfl) ha hr h
theorem n9 : Tryz.prog.funcs[9]? = some Tryz.f9 := by kernel_rfl
theorem e9 : entB Tryz.prog 9 = true := by kernel_rfl
theorem o9 : bodyOk (anL []) Tryz.f9 = true := by kernel_rfl
theorem w9 {ct : Ct} (ow : Nat → Bool) (ad : List Adj) {code : Code} (hb : Tryz.f9.body = some code) (hc : CtOk pg ct) {args : List V} {r : V} (ha : Nat.ble args.length 101 = true) (hr : r.noId = true) (h : exec ⟨pg, ct, ow, 101, anL []⟩ code ⟨argE args, hOf []⟩ (PostF pg.prog ad [.tmp 2] r [])) : PCall pg 9 args r := pcall_inF ad hc fol 9 n9 hb rfl e9 rfl (bodyOk_at o9 hb rfl) ha hr h
theorem n10 : Tryz.prog.funcs[10]? = some Tryz.f10 := by kernel_rfl
theorem e10 : entB Tryz.prog 10 = true := by kernel_rfl
theorem o10 : bodyOk (anL []) Tryz.f10 = true := by kernel_rfl
theorem w10 {ct : Ct} (ow : Nat → Bool) (ad : List Adj) {code : Code} (hb : Tryz.f10.body = some code) (hc : CtOk pg ct) {args : List V} {r : V} (ha : Nat.ble args.length 10 = true) (hr : r.noId = true) (h : exec ⟨pg, ct, ow, 10, anL []⟩ code ⟨argE args, hOf []⟩ (PostF pg.prog ad [.tmp 4] r [])) : PCall pg 10 args r := pcall_inF ad hc fol 10 n10 hb rfl e10 rfl (bodyOk_at o10 hb rfl) ha hr h
theorem n11 : Tryz.prog.funcs[11]? = some Tryz.f11 := by kernel_rfl
theorem e11 : entB Tryz.prog 11 = true := by kernel_rfl
theorem o11 : bodyOk (anL []) Tryz.f11 = true := by kernel_rfl
theorem w11 {ct : Ct} (ow : Nat → Bool) (ad : List Adj) {code : Code} (hb : Tryz.f11.body = some code) (hc : CtOk pg ct) {args : List V} {r : V} (ha : Nat.ble args.length 14 = true) (hr : r.noId = true) (h : exec ⟨pg, ct, ow, 14, anL []⟩ code ⟨argE args, hOf []⟩ (PostF pg.prog ad [.tmp 0] r [])) : PCall pg 11 args r := pcall_inF ad hc fol 11 n11 hb rfl e11 rfl (bodyOk_at o11 hb rfl) ha hr h
theorem n12 : Tryz.prog.funcs[12]? = some Tryz.f12 := by kernel_rfl
theorem e12 : entB Tryz.prog 12 = true := by kernel_rfl
theorem o12 : bodyOk (anL [(6, [0, 0, 0, 4, 12, 30, 62, 127]), (17, [0, 1, 0, 4, 15, 31])]) Tryz.f12 = true := by kernel_rfl
theorem w12 {ct : Ct} (ow : Nat → Bool) (ad : List Adj) {code : Code} (hb : Tryz.f12.body = some code) (hc : CtOk pg ct) {args : List V} {r : V} (ha : Nat.ble args.length 77 = true) (hr : r.noId = true) (h : exec ⟨pg, ct, ow, 77, anL [(6, [0, 0, 0, 4, 12, 30, 62, 127]), (17, [0, 1, 0, 4, 15, 31])]⟩ code ⟨argE args, hOf []⟩ (PostF pg.prog ad [.tmp 4] r [])) : PCall pg 12 args r := pcall_inF ad hc fol 12 n12 hb rfl e12 rfl (bodyOk_at o12 hb rfl) ha hr h
theorem n13 : Tryz.prog.funcs[13]? = some Tryz.f13 := by kernel_rfl
theorem e13 : entB Tryz.prog 13 = true := by kernel_rfl
theorem o13 : bodyOk (anL [(4, [0, 0, 2, 6, 14, 30, 0, 64, 206, 510, 1022, 0, 2048, 8190, 16382, 32767, 65535]), (8, [0, 0, 2, 0, 14, 30, 62, 126, 0, 256, 0, 1792, 3840, 7936, 16382, 32766, 65535, 131071]), (9, [0, 0, 2, 6, 14, 30, 62, 0, 128, 414, 1022, 2046, 4095, 8191])]) Tryz.f13 = true := by kernel_rfl
theorem w13 {ct : Ct} (ow : Nat → Bool) (ad : List Adj) {code : Code} (hb : Tryz.f13.body = some code) (hc : CtOk pg ct) {args : List V} {r : V} (ha : Nat.ble args.length 79 = true) (hr : r.noId = true) (h : exec ⟨pg, ct, ow, 79, anL [(4, [0, 0, 2, 6, 14, 30, 0, 64, 206, 510, 1022, 0, 2048, 8190, 16382, 32767, 65535]), (8, [0, 0, 2, 0, 14, 30, 62, 126, 0, 256, 0, 1792, 3840, 7936, 16382, 32766, 65535, 131071]), (9, [0, 0, 2, 6, 14, 30, 62, 0, 128, 414, 1022, 2046, 4095, 8191])]⟩ code ⟨argE args, hOf []⟩ (PostF pg.prog ad [.tmp 2] r [])) : PCall pg 13 args r := pcall_inF ad hc fol 13 n13 hb rfl e13 rfl (bodyOk_at o13 hb rfl) ha hr h
theorem n14 : Tryz.prog.funcs[14]? = some Tryz.f14 := by kernel_rfl
theorem e14 : entB Tryz.prog 14 = true := by kernel_rfl
theorem o14 : bodyOk (anL []) Tryz.f14 = true := by kernel_rfl
theorem w14 {ct : Ct} (ow : Nat → Bool) (ad : List Adj) {code : Code} (hb : Tryz.f14.body = some code) (hc : CtOk pg ct) {args : List V} {r : V} (ha : Nat.ble args.length 6 = true) (hr : r.noId = true) (h : exec ⟨pg, ct, ow, 6, anL []⟩ code ⟨argE args, hOf []⟩ (PostF pg.prog ad [.tmp 2] r [])) : PCall pg 14 args r := pcall_inF ad hc fol 14 n14 hb rfl e14 rfl (bodyOk_at o14 hb rfl) ha hr h
theorem n15 : Tryz.prog.funcs[15]? = some Tryz.f15 := by kernel_rfl
theorem e15 : entB Tryz.prog 15 = true := by kernel_rfl
theorem o15 : bodyOk (anL []) Tryz.f15 = true := by kernel_rfl
theorem w15 {ct : Ct} (ow : Nat → Bool) (ad : List Adj) {code : Code} (hb : Tryz.f15.body = some code) (hc : CtOk pg ct) {args : List V} {r : V} (ha : Nat.ble args.length 37 = true) (hr : r.noId = true) (h : exec ⟨pg, ct, ow, 37, anL []⟩ code ⟨argE args, hOf []⟩ (PostF pg.prog ad [.tmp 2] r [])) : PCall pg 15 args r := pcall_inF ad hc fol 15 n15 hb rfl e15 rfl (bodyOk_at o15 hb rfl) ha hr h
theorem n16 : Tryz.prog.funcs[16]? = some Tryz.f16 := by kernel_rfl
theorem e16 : entB Tryz.prog 16 = true := by kernel_rfl
theorem o16 : bodyOk (anL []) Tryz.f16 = true := by kernel_rfl
theorem w16 {ct : Ct} (ow : Nat → Bool) (ad : List Adj) {code : Code} (hb : Tryz.f16.body = some code) (hc : CtOk pg ct) {args : List V} {r : V} (ha : Nat.ble args.length 26 = true) (hr : r.noId = true) (h : exec ⟨pg, ct, ow, 26, anL []⟩ code ⟨argE args, hOf []⟩ (PostF pg.prog ad [.tmp 2] r [])) : PCall pg 16 args r := pcall_inF ad hc fol 16 n16 hb rfl e16 rfl (bodyOk_at o16 hb rfl) ha hr h
theorem n17 : Tryz.prog.funcs[17]? = some Tryz.f17 := by kernel_rfl
theorem e17 : entB Tryz.prog 17 = true := by kernel_rfl
theorem o17 : bodyOk (anL []) Tryz.f17 = true := by kernel_rfl
theorem w17 {ct : Ct} (ow : Nat → Bool) (ad : List Adj) {code : Code} (hb : Tryz.f17.body = some code) (hc : CtOk pg ct) {args : List V} {r : V} (ha : Nat.ble args.length 9 = true) (hr : r.noId = true) (h : exec ⟨pg, ct, ow, 9, anL []⟩ code ⟨argE args, hOf []⟩ (PostF pg.prog ad [.tmp 2] r [])) : PCall pg 17 args r := pcall_inF ad hc fol 17 n17 hb rfl e17 rfl (bodyOk_at o17 hb rfl) ha hr h
theorem n18 : Tryz.prog.funcs[18]? = some Tryz.f18 := by kernel_rfl
theorem e18 : entB Tryz.prog 18 = true := by kernel_rfl
theorem o18 : bodyOk (anL []) Tryz.f18 = true := by kernel_rfl
theorem w18 {ct : Ct} (ow : Nat → Bool) (ad : List Adj) {code : Code} (hb : Tryz.f18.body = some code) (hc : CtOk pg ct) {args : List V} {r : V} (ha : Nat.ble args.length 28 = true) (hr : r.noId = true) (h : exec ⟨pg, ct, ow, 28, anL []⟩ code ⟨argE args, hOf []⟩ (PostF pg.prog ad [.tmp 2] r [])) : PCall pg 18 args r := pcall_inF ad hc fol 18 n18 hb rfl e18 rfl (bodyOk_at o18 hb rfl) ha hr h
theorem n19 : Tryz.prog.funcs[19]? = some Tryz.f19 := by kernel_rfl
theorem e19 : entB Tryz.prog 19 = true := by kernel_rfl
theorem o19 : bodyOk (anL []) Tryz.f19 = true := by kernel_rfl
theorem w19 {ct : Ct} (ow : Nat → Bool) (ad : List Adj) {code : Code} (hb : Tryz.f19.body = some code) (hc : CtOk pg ct) {args : List V} {r : V} (ha : Nat.ble args.length 23 = true) (hr : r.noId = true) (h : exec ⟨pg, ct, ow, 23, anL []⟩ code ⟨argE args, hOf []⟩ (PostF pg.prog ad [.tmp 2] r [])) : PCall pg 19 args r := pcall_inF ad hc fol 19 n19 hb rfl e19 rfl (bodyOk_at o19 hb rfl) ha hr h
theorem n20 : Tryz.prog.funcs[20]? = some Tryz.f20 := by kernel_rfl
theorem e20 : entB Tryz.prog 20 = true := by kernel_rfl
theorem o20 : bodyOk (anL []) Tryz.f20 = true := by kernel_rfl
theorem w20 {ct : Ct} (ow : Nat → Bool) (ad : List Adj) {code : Code} (hb : Tryz.f20.body = some code) (hc : CtOk pg ct) {args : List V} {r : V} (ha : Nat.ble args.length 9 = true) (hr : r.noId = true) (h : exec ⟨pg, ct, ow, 9, anL []⟩ code ⟨argE args, hOf []⟩ (PostF pg.prog ad [.tmp 4] r [])) : PCall pg 20 args r := pcall_inF ad hc fol 20 n20 hb rfl e20 rfl (bodyOk_at o20 hb rfl) ha hr h
theorem n21 : Tryz.prog.funcs[21]? = some Tryz.f21 := by kernel_rfl
theorem e21 : entB Tryz.prog 21 = true := by kernel_rfl
theorem o21 : bodyOk (anL []) Tryz.f21 = true := by kernel_rfl
theorem w21 {ct : Ct} (ow : Nat → Bool) (ad : List Adj) {code : Code} (hb : Tryz.f21.body = some code) (hc : CtOk pg ct) {args : List V} {r : V} (ha : Nat.ble args.length 2 = true) (hr : r.noId = true) (h : exec ⟨pg, ct, ow, 2, anL []⟩ code ⟨argE args, hOf []⟩ (PostF pg.prog ad [.tmp 0] r [])) : PCall pg 21 args r := pcall_inF ad hc fol 21 n21 hb rfl e21 rfl (bodyOk_at o21 hb rfl) ha hr h
theorem n22 : Tryz.prog.funcs[22]? = some Tryz.f22 := by kernel_rfl
theorem e22 : entB Tryz.prog 22 = true := by kernel_rfl
theorem o22 : bodyOk (anL []) Tryz.f22 = true := by kernel_rfl
theorem w22 {ct : Ct} (ow : Nat → Bool) (ad : List Adj) {code : Code} (hb : Tryz.f22.body = some code) (hc : CtOk pg ct) {args : List V} {r : V} (ha : Nat.ble args.length 30 = true) (hr : r.noId = true) (h : exec ⟨pg, ct, ow, 30, anL []⟩ code ⟨argE args, hOf []⟩ (PostF pg.prog ad [.tmp 2] r [])) : PCall pg 22 args r := pcall_inF ad hc fol 22 n22 hb rfl e22 rfl (bodyOk_at o22 hb rfl) ha hr h
theorem n23 : Tryz.prog.funcs[23]? = some Tryz.f23 := by kernel_rfl
theorem e23 : entB Tryz.prog 23 = true := by kernel_rfl
theorem o23 : bodyOk (anL []) Tryz.f23 = true := by kernel_rfl
theorem w23 {ct : Ct} (ow : Nat → Bool) (ad : List Adj) {code : Code} (hb : Tryz.f23.body = some code) (hc : CtOk pg ct) {args : List V} {r : V} (ha : Nat.ble args.length 15 = true) (hr : r.noId = true) (h : exec ⟨pg, ct, ow, 15, anL []⟩ code ⟨argE args, hOf []⟩ (PostF pg.prog ad [.tmp 6] r [])) : PCall pg 23 args r := pcall_inF ad hc fol 23 n23 hb rfl e23 rfl (bodyOk_at o23 hb rfl) ha hr h
theorem n24 : Tryz.prog.funcs[24]? = some Tryz.f24 := by kernel_rfl
theorem e24 : entB Tryz.prog 24 = true := by kernel_rfl
theorem o24 : bodyOk (anL []) Tryz.f24 = true := by kernel_rfl
theorem w24 {ct : Ct} (ow : Nat → Bool) (ad : List Adj) {code : Code} (hb : Tryz.f24.body = some code) (hc : CtOk pg ct) {args : List V} {r : V} (ha : Nat.ble args.length 47 = true) (hr : r.noId = true) (h : exec ⟨pg, ct, ow, 47, anL []⟩ code ⟨argE args, hOf []⟩ (PostF pg.prog ad [.tmp 2] r [])) : PCall pg 24 args r := pcall_inF ad hc fol 24 n24 hb rfl e24 rfl (bodyOk_at o24 hb rfl) ha hr h
theorem n25 : Tryz.prog.funcs[25]? = some Tryz.f25 := by kernel_rfl
theorem e25 : entB Tryz.prog 25 = true := by kernel_rfl
theorem o25 : bodyOk (anL []) Tryz.f25 = true := by kernel_rfl
theorem w25 {ct : Ct} (ow : Nat → Bool) (ad : List Adj) {code : Code} (hb : Tryz.f25.body = some code) (hc : CtOk pg ct) {args : List V} {r : V} (ha : Nat.ble args.length 23 = true) (hr : r.noId = true) (h : exec ⟨pg, ct, ow, 23, anL []⟩ code ⟨argE args, hOf []⟩ (PostF pg.prog ad [.tmp 2] r [])) : PCall pg 25 args r := pcall_inF ad hc fol 25 n25 hb rfl e25 rfl (bodyOk_at o25 hb rfl) ha hr h
theorem n26 : Tryz.prog.funcs[26]? = some Tryz.f26 := by kernel_rfl
theorem e26 : entB Tryz.prog 26 = true := by kernel_rfl
theorem o26 : bodyOk (anL []) Tryz.f26 = true := by kernel_rfl
theorem w26 {ct : Ct} (ow : Nat → Bool) (ad : List Adj) {code : Code} (hb : Tryz.f26.body = some code) (hc : CtOk pg ct) {args : List V} {r : V} (ha : Nat.ble args.length 27 = true) (hr : r.noId = true) (h : exec ⟨pg, ct, ow, 27, anL []⟩ code ⟨argE args, hOf []⟩ (PostF pg.prog ad [.tmp 2] r [])) : PCall pg 26 args r := pcall_inF ad hc fol 26 n26 hb rfl e26 rfl (bodyOk_at o26 hb rfl) ha hr h
theorem n27 : Tryz.prog.funcs[27]? = some Tryz.f27 := by kernel_rfl
theorem e27 : entB Tryz.prog 27 = true := by kernel_rfl
theorem o27 : bodyOk (anL []) Tryz.f27 = true := by kernel_rfl
theorem w27 {ct : Ct} (ow : Nat → Bool) (ad : List Adj) {code : Code} (hb : Tryz.f27.body = some code) (hc : CtOk pg ct) {args : List V} {r : V} (ha : Nat.ble args.length 30 = true) (hr : r.noId = true) (h : exec ⟨pg, ct, ow, 30, anL []⟩ code ⟨argE args, hOf []⟩ (PostF pg.prog ad [.tmp 4] r [])) : PCall pg 27 args r := pcall_inF ad hc fol 27 n27 hb rfl e27 rfl (bodyOk_at o27 hb rfl) ha hr h
theorem n28 : Tryz.prog.funcs[28]? = some Tryz.f28 := by kernel_rfl
theorem e28 : entB Tryz.prog 28 = true := by kernel_rfl
theorem o28 : bodyOk (anL []) Tryz.f28 = true := by kernel_rfl
theorem fw28 {ct : Ct} (ow : Nat → Bool) (ad : List Adj) {code : Code} (hb : Tryz.f28.body = some code) (hc : CtOk pg ct) {args : List V} {hl hl' : HL} {r : V} (ha : Nat.ble args.length 12 = true) (hlo : ∀ p ∈ hl, 9000 ≤ p.1) (hin : hlIn (idsIn hl) hl') (hr : V.menIn (idsIn hl) r = true) (h : exec ⟨pg, ct, ow, 12, anL []⟩ code ⟨argE args, hOf hl⟩ (PostF pg.prog ad [] r hl')) : FCall pg 28 args hl r hl' := fcall_inF ad hc fol 28 n28 hb rfl e28 rfl (bodyOk_at o28 hb rfl) ha hlo hin hr h
theorem n29 : Tryz.prog.funcs[29]? = some Tryz.f29 := by kernel_rfl
theorem e29 : entB Tryz.prog 29 = true := by kernel_rfl
theorem o29 : bodyOk (anL []) Tryz.f29 = true := by kernel_rfl
theorem w29 {ct : Ct} (ow : Nat → Bool) (ad : List Adj) {code : Code} (hb : Tryz.f29.body = some code) (hc : CtOk pg ct) {args : List V} {r : V} (ha : Nat.ble args.length 2 = true) (hr : r.noId = true) (h : exec ⟨pg, ct, ow, 2, anL []⟩ code ⟨argE args, hOf []⟩ (PostF pg.prog ad [.tmp 0] r [])) : PCall pg 29 args r := pcall_inF ad hc fol 29 n29 hb rfl e29 rfl (bodyOk_at o29 hb rfl) ha hr h
theorem n30 : Tryz.prog.funcs[30]? = some Tryz.f30 := by kernel_rfl
theorem e30 : entB Tryz.prog 30 = true := by kernel_rfl
theorem o30 : bodyOk (anL []) Tryz.f30 = true := by kernel_rfl
theorem w30 {ct : Ct} (ow : Nat → Bool) (ad : List Adj) {code : Code} (hb : Tryz.f30.body = some code) (hc : CtOk pg ct) {args : List V} {r : V} (ha : Nat.ble args.length 9 = true) (hr : r.noId = true) (h : exec ⟨pg, ct, ow, 9, anL []⟩ code ⟨argE args, hOf []⟩ (PostF pg.prog ad [.tmp 2, .tmp 3] r [])) : PCall pg 30 args r := pcall_inF ad hc fol 30 n30 hb rfl e30 rfl (bodyOk_at o30 hb rfl) ha hr h
theorem n32 : Tryz.prog.funcs[32]? = some Tryz.f32 := by kernel_rfl
theorem e32 : entB Tryz.prog 32 = true := by kernel_rfl
theorem o32 : bodyOk (anL []) Tryz.f32 = true := by kernel_rfl
theorem w32 {ct : Ct} (ow : Nat → Bool) (ad : List Adj) {code : Code} (hb : Tryz.f32.body = some code) (hc : CtOk pg ct) {args : List V} {r : V} (ha : Nat.ble args.length 8 = true) (hr : r.noId = true) (h : exec ⟨pg, ct, ow, 8, anL []⟩ code ⟨argE args, hOf []⟩ (PostF pg.prog ad [.tmp 2] r [])) : PCall pg 32 args r := pcall_inF ad hc fol 32 n32 hb rfl e32 rfl (bodyOk_at o32 hb rfl) ha hr h
theorem n33 : Tryz.prog.funcs[33]? = some Tryz.f33 := by kernel_rfl
theorem e33 : entB Tryz.prog 33 = true := by kernel_rfl
theorem o33 : bodyOk (anL [(10, [0, 1, 0, 4, 12, 31, 63, 0, 128, 384, 1023, 2047, 0, 4992, 16383, 32767, 0, 65536, 209792, 524287, 0, 1520512, 4194303, 8388607, 0, 16777216, 53949312, 134217727, 268435455, 0, 536870912, 1610612736, 3879154560, 8589934591, 17179869183, 0, 34359738368, 111253336960, 274877906943, 549755813887, 1099511627775])]) Tryz.f33 = true := by kernel_rfl
theorem w33 {ct : Ct} (ow : Nat → Bool) (ad : List Adj) {code : Code} (hb : Tryz.f33.body = some code) (hc : CtOk pg ct) {args : List V} {r : V} (ha : Nat.ble args.length 77 = true) (hr : r.noId = true) (h : exec ⟨pg, ct, ow, 77, anL [(10, [0, 1, 0, 4, 12, 31, 63, 0, 128, 384, 1023, 2047, 0, 4992, 16383, 32767, 0, 65536, 209792, 524287, 0, 1520512, 4194303, 8388607, 0, 16777216, 53949312, 134217727, 268435455, 0, 536870912, 1610612736, 3879154560, 8589934591, 17179869183, 0, 34359738368, 111253336960, 274877906943, 549755813887, 1099511627775])]⟩ code ⟨argE args, hOf []⟩ (PostF pg.prog ad [.tmp 2] r [])) : PCall pg 33 args r := pcall_inF ad hc fol 33 n33 hb rfl e33 rfl (bodyOk_at o33 hb rfl) ha hr h
theorem n34 : Tryz.prog.funcs[34]? = some Tryz.f34 := by kernel_rfl
theorem e34 : entB Tryz.prog 34 = true := by kernel_rfl
theorem o34 : bodyOk (anL []) Tryz.f34 = true := by kernel_rfl
theorem w34 {ct : Ct} (ow : Nat → Bool) (ad : List Adj) {code : Code} (hb : Tryz.f34.body = some code) (hc : CtOk pg ct) {args : List V} {r : V} (ha : Nat.ble args.length 23 = true) (hr : r.noId = true) (h : exec ⟨pg, ct, ow, 23, anL []⟩ code ⟨argE args, hOf []⟩ (PostF pg.prog ad [.tmp 2] r [])) : PCall pg 34 args r := pcall_inF ad hc fol 34 n34 hb rfl e34 rfl (bodyOk_at o34 hb rfl) ha hr h
theorem n35 : Tryz.prog.funcs[35]? = some Tryz.f35 := by kernel_rfl
theorem e35 : entB Tryz.prog 35 = true := by kernel_rfl
theorem o35 : bodyOk (anL []) Tryz.f35 = true := by kernel_rfl
theorem w35 {ct : Ct} (ow : Nat → Bool) (ad : List Adj) {code : Code} (hb : Tryz.f35.body = some code) (hc : CtOk pg ct) {args : List V} {r : V} (ha : Nat.ble args.length 20 = true) (hr : r.noId = true) (h : exec ⟨pg, ct, ow, 20, anL []⟩ code ⟨argE args, hOf []⟩ (PostF pg.prog ad [.tmp 2] r [])) : PCall pg 35 args r := pcall_inF ad hc fol 35 n35 hb rfl e35 rfl (bodyOk_at o35 hb rfl) ha hr h
theorem n37 : Tryz.prog.funcs[37]? = some Tryz.f37 := by kernel_rfl
theorem e37 : entB Tryz.prog 37 = true := by kernel_rfl
theorem o37 : bodyOk (anL []) Tryz.f37 = true := by kernel_rfl
theorem w37 {ct : Ct} (ow : Nat → Bool) (ad : List Adj) {code : Code} (hb : Tryz.f37.body = some code) (hc : CtOk pg ct) {args : List V} {r : V} (ha : Nat.ble args.length 50 = true) (hr : r.noId = true) (h : exec ⟨pg, ct, ow, 50, anL []⟩ code ⟨argE args, hOf []⟩ (PostF pg.prog ad [.tmp 2] r [])) : PCall pg 37 args r := pcall_inF ad hc fol 37 n37 hb rfl e37 rfl (bodyOk_at o37 hb rfl) ha hr h
theorem n38 : Tryz.prog.funcs[38]? = some Tryz.f38 := by kernel_rfl
theorem e38 : entB Tryz.prog 38 = true := by kernel_rfl
theorem o38 : bodyOk (anL []) Tryz.f38 = true := by kernel_rfl
theorem w38 {ct : Ct} (ow : Nat → Bool) (ad : List Adj) {code : Code} (hb : Tryz.f38.body = some code) (hc : CtOk pg ct) {args : List V} {r : V} (ha : Nat.ble args.length 35 = true) (hr : r.noId = true) (h : exec ⟨pg, ct, ow, 35, anL []⟩ code ⟨argE args, hOf []⟩ (PostF pg.prog ad [.tmp 2] r [])) : PCall pg 38 args r := pcall_inF ad hc fol 38 n38 hb rfl e38 rfl (bodyOk_at o38 hb rfl) ha hr h
theorem n39 : Tryz.prog.funcs[39]? = some Tryz.f39 := by kernel_rfl
theorem e39 : entB Tryz.prog 39 = true := by kernel_rfl
theorem o39 : bodyOk (anL []) Tryz.f39 = true := by kernel_rfl
theorem w39 {ct : Ct} (ow : Nat → Bool) (ad : List Adj) {code : Code} (hb : Tryz.f39.body = some code) (hc : CtOk pg ct) {args : List V} {r : V} (ha : Nat.ble args.length 19 = true) (hr : r.noId = true) (h : exec ⟨pg, ct, ow, 19, anL []⟩ code ⟨argE args, hOf []⟩ (PostF pg.prog ad [.tmp 4] r [])) : PCall pg 39 args r := pcall_inF ad hc fol 39 n39 hb rfl e39 rfl (bodyOk_at o39 hb rfl) ha hr h
theorem n40 : Tryz.prog.funcs[40]? = some Tryz.f40 := by kernel_rfl
theorem e40 : entB Tryz.prog 40 = true := by kernel_rfl
theorem o40 : bodyOk (anL []) Tryz.f40 = true := by kernel_rfl
theorem w40 {ct : Ct} (ow : Nat → Bool) (ad : List Adj) {code : Code} (hb : Tryz.f40.body = some code) (hc : CtOk pg ct) {args : List V} {r : V} (ha : Nat.ble args.length 45 = true) (hr : r.noId = true) (h : exec ⟨pg, ct, ow, 45, anL []⟩ code ⟨argE args, hOf []⟩ (PostF pg.prog ad [.tmp 2] r [])) : PCall pg 40 args r := pcall_inF ad hc fol 40 n40 hb rfl e40 rfl (bodyOk_at o40 hb rfl) ha hr h
theorem n41 : Tryz.prog.funcs[41]? = some Tryz.f41 := by kernel_rfl
theorem e41 : entB Tryz.prog 41 = true := by kernel_rfl
theorem o41 : bodyOk (anL []) Tryz.f41 = true := by kernel_rfl
theorem w41 {ct : Ct} (ow : Nat → Bool) (ad : List Adj) {code : Code} (hb : Tryz.f41.body = some code) (hc : CtOk pg ct) {args : List V} {r : V} (ha : Nat.ble args.length 35 = true) (hr : r.noId = true) (h : exec ⟨pg, ct, ow, 35, anL []⟩ code ⟨argE args, hOf []⟩ (PostF pg.prog ad [.tmp 2] r [])) : PCall pg 41 args r := pcall_inF ad hc fol 41 n41 hb rfl e41 rfl (bodyOk_at o41 hb rfl) ha hr h
theorem n42 : Tryz.prog.funcs[42]? = some Tryz.f42 := by kernel_rfl
theorem e42 : entB Tryz.prog 42 = true := by kernel_rfl
theorem o42 : bodyOk (anL []) Tryz.f42 = true := by kernel_rfl
theorem w42 {ct : Ct} (ow : Nat → Bool) (ad : List Adj) {code : Code} (hb : Tryz.f42.body = some code) (hc : CtOk pg ct) {args : List V} {r : V} (ha : Nat.ble args.length 33 = true) (hr : r.noId = true) (h : exec ⟨pg, ct, ow, 33, anL []⟩ code ⟨argE args, hOf []⟩ (PostF pg.prog ad [.tmp 2] r [])) : PCall pg 42 args r := pcall_inF ad hc fol 42 n42 hb rfl e42 rfl (bodyOk_at o42 hb rfl) ha hr h
theorem n43 : Tryz.prog.funcs[43]? = some Tryz.f43 := by kernel_rfl
theorem e43 : entB Tryz.prog 43 = true := by kernel_rfl
theorem o43 : bodyOk (anL [(2, [0, 0, 2, 6, 14, 31, 63, 127, 0, 256, 769, 2047, 4095, 1793, 0, 16384, 49152, 124673, 255745, 524287, 1048575, 0, 2097152, 6301441, 16777215, 33554431, 0, 67108864, 216016641, 536870911, 1073741823, 0, 2147483648, 6926903041, 17179869183, 34359738367, 0, 68719476736, 221675267841, 549755813887, 1099511627775, 2199023255551])]) Tryz.f43 = true := by kernel_rfl
theorem w43 {ct : Ct} (ow : Nat → Bool) (ad : List Adj) {code : Code} (hb : Tryz.f43.body = some code) (hc : CtOk pg ct) {args : List V} {r : V} (ha : Nat.ble args.length 47 = true) (hr : r.noId = true) (h : exec ⟨pg, ct, ow, 47, anL [(2, [0, 0, 2, 6, 14, 31, 63, 127, 0, 256, 769, 2047, 4095, 1793, 0, 16384, 49152, 124673, 255745, 524287, 1048575, 0, 2097152, 6301441, 16777215, 33554431, 0, 67108864, 216016641, 536870911, 1073741823, 0, 2147483648, 6926903041, 17179869183, 34359738367, 0, 68719476736, 221675267841, 549755813887, 1099511627775, 2199023255551])]⟩ code ⟨argE args, hOf []⟩ (PostF pg.prog ad [.tmp 2] r [])) : PCall pg 43 args r := pcall_inF ad hc fol 43 n43 hb rfl e43 rfl (bodyOk_at o43 hb rfl) ha hr h
theorem n45 : Tryz.prog.funcs[45]? = some Tryz.f45 := by kernel_rfl
theorem e45 : entB Tryz.prog 45 = true := by kernel_rfl
theorem o45 : bodyOk (anL []) Tryz.f45 = true := by kernel_rfl
theorem w45 {ct : Ct} (ow : Nat → Bool) (ad : List Adj) {code : Code} (hb : Tryz.f45.body = some code) (hc : CtOk pg ct) {args : List V} {r : V} (ha : Nat.ble args.length 5 = true) (hr : r.noId = true) (h : exec ⟨pg, ct, ow, 5, anL []⟩ code ⟨argE args, hOf []⟩ (PostF pg.prog ad [.tmp 2] r [])) : PCall pg 45 args r := pcall_inF ad hc fol 45 n45 hb rfl e45 rfl (bodyOk_at o45 hb rfl) ha hr h
theorem n46 : Tryz.prog.funcs[46]? = some Tryz.f46 := by kernel_rfl
theorem e46 : entB Tryz.prog 46 = true := by kernel_rfl
theorem o46 : bodyOk (anL []) Tryz.f46 = true := by kernel_rfl
theorem w46 {ct : Ct} (ow : Nat → Bool) (ad : List Adj) {code : Code} (hb : Tryz.f46.body = some code) (hc : CtOk pg ct) {args : List V} {r : V} (ha : Nat.ble args.length 16 = true) (hr : r.noId = true) (h : exec ⟨pg, ct, ow, 16, anL []⟩ code ⟨argE args, hOf []⟩ (PostF pg.prog ad [.tmp 4] r [])) : PCall pg 46 args r := pcall_inF ad hc fol 46 n46 hb rfl e46 rfl (bodyOk_at o46 hb rfl) ha hr h
theorem n47 : Tryz.prog.funcs[47]? = some Tryz.f47 := by kernel_rfl
theorem e47 : entB Tryz.prog 47 = true := by kernel_rfl
theorem o47 : bodyOk (anL []) Tryz.f47 = true := by kernel_rfl
theorem w47 {ct : Ct} (ow : Nat → Bool) (ad : List Adj) {code : Code} (hb : Tryz.f47.body = some code) (hc : CtOk pg ct) {args : List V} {r : V} (ha : Nat.ble args.length 14 = true) (hr : r.noId = true) (h : exec ⟨pg, ct, ow, 14, anL []⟩ code ⟨argE args, hOf []⟩ (PostF pg.prog ad [.tmp 2] r [])) : PCall pg 47 args r := pcall_inF ad hc fol 47 n47 hb rfl e47 rfl (bodyOk_at o47 hb rfl) ha hr h
theorem n48 : Tryz.prog.funcs[48]? = some Tryz.f48 := by kernel_rfl
theorem e48 : entB Tryz.prog 48 = true := by kernel_rfl
theorem o48 : bodyOk (anL []) Tryz.f48 = true := by kernel_rfl
theorem w48 {ct : Ct} (ow : Nat → Bool) (ad : List Adj) {code : Code} (hb : Tryz.f48.body = some code) (hc : CtOk pg ct) {args : List V} {r : V} (ha : Nat.ble args.length 9 = true) (hr : r.noId = true) (h : exec ⟨pg, ct, ow, 9, anL []⟩ code ⟨argE args, hOf []⟩ (PostF pg.prog ad [.tmp 2] r [])) : PCall pg 48 args r := pcall_inF ad hc fol 48 n48 hb rfl e48 rfl (bodyOk_at o48 hb rfl) ha hr h
theorem n56 : Tryz.prog.funcs[56]? = some Tryz.f56 := by kernel_rfl
theorem e56 : entB Tryz.prog 56 = true := by kernel_rfl
theorem o56 : bodyOk (anL []) Tryz.f56 = true := by kernel_rfl
theorem w56 {ct : Ct} (ow : Nat → Bool) (ad : List Adj) {code : Code} (hb : Tryz.f56.body = some code) (hc : CtOk pg ct) {args : List V} {r : V} (ha : Nat.ble args.length 8 = true) (hr : r.noId = true) (h : exec ⟨pg, ct, ow, 8, anL []⟩ code ⟨argE args, hOf []⟩ (PostF pg.prog ad [.tmp 4] r [])) : PCall pg 56 args r := pcall_inF ad hc fol 56 n56 hb rfl e56 rfl (bodyOk_at o56 hb rfl) ha hr h
theorem n57 : Tryz.prog.funcs[57]? = some Tryz.f57 := by kernel_rfl
theorem e57 : entB Tryz.prog 57 = true := by kernel_rfl
theorem o57 : bodyOk (anL []) Tryz.f57 = true := by kernel_rfl
theorem w57 {ct : Ct} (ow : Nat → Bool) (ad : List Adj) {code : Code} (hb : Tryz.f57.body = some code) (hc : CtOk pg ct) {args : List V} {r : V} (ha : Nat.ble args.length 5 = true) (hr : r.noId = true) (h : exec ⟨pg, ct, ow, 5, anL []⟩ code ⟨argE args, hOf []⟩ (PostF pg.prog ad [.tmp 2] r [])) : PCall pg 57 args r := pcall_inF ad hc fol 57 n57 hb rfl e57 rfl (bodyOk_at o57 hb rfl) ha hr h
theorem n58 : Tryz.prog.funcs[58]? = some Tryz.f58 := by kernel_rfl
theorem e58 : entB Tryz.prog 58 = true := by kernel_rfl
theorem o58 : bodyOk (anL []) Tryz.f58 = true := by kernel_rfl
theorem w58 {ct : Ct} (ow : Nat → Bool) (ad : List Adj) {code : Code} (hb : Tryz.f58.body = some code) (hc : CtOk pg ct) {args : List V} {r : V} (ha : Nat.ble args.length 15 = true) (hr : r.noId = true) (h : exec ⟨pg, ct, ow, 15, anL []⟩ code ⟨argE args, hOf []⟩ (PostF pg.prog ad [.tmp 6] r [])) : PCall pg 58 args r := pcall_inF ad hc fol 58 n58 hb rfl e58 rfl (bodyOk_at o58 hb rfl) ha hr h
theorem n59 : Tryz.prog.funcs[59]? = some Tryz.f59 := by kernel_rfl
theorem e59 : entB Tryz.prog 59 = true := by kernel_rfl
theorem o59 : bodyOk (anL []) Tryz.f59 = true := by kernel_rfl
theorem w59 {ct : Ct} (ow : Nat → Bool) (ad : List Adj) {code : Code} (hb : Tryz.f59.body = some code) (hc : CtOk pg ct) {args : List V} {r : V} (ha : Nat.ble args.length 58 = true) (hr : r.noId = true) (h : exec ⟨pg, ct, ow, 58, anL []⟩ code ⟨argE args, hOf []⟩ (PostF pg.prog ad [.cell 2 69] r [])) : PCall pg 59 args r := pcall_inF ad hc fol 59 n59 hb rfl e59 rfl (bodyOk_at o59 hb rfl) ha hr h
theorem n60 : Tryz.prog.funcs[60]? = some Tryz.f60 := by kernel_rfl
theorem e60 : entB Tryz.prog 60 = true := by kernel_rfl
theorem o60 : bodyOk (anL []) Tryz.f60 = true := by kernel_rfl
theorem w60 {ct : Ct} (ow : Nat → Bool) (ad : List Adj) {code : Code} (hb : Tryz.f60.body = some code) (hc : CtOk pg ct) {args : List V} {r : V} (ha : Nat.ble args.length 2 = true) (hr : r.noId = true) (h : exec ⟨pg, ct, ow, 2, anL []⟩ code ⟨argE args, hOf []⟩ (PostF pg.prog ad [.tmp 0] r [])) : PCall pg 60 args r := pcall_inF ad hc fol 60 n60 hb rfl e60 rfl (bodyOk_at o60 hb rfl) ha hr h
theorem n61 : Tryz.prog.funcs[61]? = some Tryz.f61 := by kernel_rfl
theorem e61 : entB Tryz.prog 61 = true := by kernel_rfl
theorem o61 : bodyOk (anL []) Tryz.f61 = true := by kernel_rfl
theorem w61 {ct : Ct} (ow : Nat → Bool) (ad : List Adj) {code : Code} (hb : Tryz.f61.body = some code) (hc : CtOk pg ct) {args : List V} {r : V} (ha : Nat.ble args.length 16 = true) (hr : r.noId = true) (h : exec ⟨pg, ct, ow, 16, anL []⟩ code ⟨argE args, hOf []⟩ (PostF pg.prog ad [.tmp 4] r [])) : PCall pg 61 args r := pcall_inF ad hc fol 61 n61 hb rfl e61 rfl (bodyOk_at o61 hb rfl) ha hr h
theorem n62 : Tryz.prog.funcs[62]? = some Tryz.f62 := by kernel_rfl
theorem e62 : entB Tryz.prog 62 = true := by kernel_rfl
theorem o62 : bodyOk (anL []) Tryz.f62 = true := by kernel_rfl
theorem w62 {ct : Ct} (ow : Nat → Bool) (ad : List Adj) {code : Code} (hb : Tryz.f62.body = some code) (hc : CtOk pg ct) {args : List V} {r : V} (ha : Nat.ble args.length 2 = true) (hr : r.noId = true) (h : exec ⟨pg, ct, ow, 2, anL []⟩ code ⟨argE args, hOf []⟩ (PostF pg.prog ad [.tmp 0] r [])) : PCall pg 62 args r := pcall_inF ad hc fol 62 n62 hb rfl e62 rfl (bodyOk_at o62 hb rfl) ha hr h
theorem n64 : Tryz.prog.funcs[64]? = some Tryz.f64 := by kernel_rfl
theorem e64 : entB Tryz.prog 64 = true := by kernel_rfl
theorem o64 : bodyOk (anL []) Tryz.f64 = true := by kernel_rfl
theorem w64 {ct : Ct} (ow : Nat → Bool) (ad : List Adj) {code : Code} (hb : Tryz.f64.body = some code) (hc : CtOk pg ct) {args : List V} {r : V} (ha : Nat.ble args.length 16 = true) (hr : r.noId = true) (h : exec ⟨pg, ct, ow, 16, anL []⟩ code ⟨argE args, hOf []⟩ (PostF pg.prog ad [.tmp 2] r [])) : PCall pg 64 args r := pcall_inF ad hc fol 64 n64 hb rfl e64 rfl (bodyOk_at o64 hb rfl) ha hr h
theorem n69 : Tryz.prog.funcs[69]? = some Tryz.f69 := by kernel_rfl
theorem e69 : entB Tryz.prog 69 = true := by kernel_rfl
theorem o69 : bodyOk (anL []) Tryz.f69 = true := by kernel_rfl
theorem w69 {ct : Ct} (ow : Nat → Bool) (ad : List Adj) {code : Code} (hb : Tryz.f69.body = some code) (hc : CtOk pg ct) {args : List V} {r : V} (ha : Nat.ble args.length 8 = true) (hr : r.noId = true) (h : exec ⟨pg, ct, ow, 8, anL []⟩ code ⟨argE args, hOf []⟩ (PostF pg.prog ad [.tmp 4] r [])) : PCall pg 69 args r := pcall_inF ad hc fol 69 n69 hb rfl e69 rfl (bodyOk_at o69 hb rfl) ha hr h
theorem n70 : Tryz.prog.funcs[70]? = some Tryz.f70 := by kernel_rfl
theorem e70 : entB Tryz.prog 70 = true := by kernel_rfl
theorem o70 : bodyOk (anL []) Tryz.f70 = true := by kernel_rfl
theorem w70 {ct : Ct} (ow : Nat → Bool) (ad : List Adj) {code : Code} (hb : Tryz.f70.body = some code) (hc : CtOk pg ct) {args : List V} {r : V} (ha : Nat.ble args.length 33 = true) (hr : r.noId = true) (h : exec ⟨pg, ct, ow, 33, anL []⟩ code ⟨argE args, hOf []⟩ (PostF pg.prog ad [.tmp 4] r [])) : PCall pg 70 args r := pcall_inF ad hc fol 70 n70 hb rfl e70 rfl (bodyOk_at o70 hb rfl) ha hr h
theorem n80 : Tryz.prog.funcs[80]? = some Tryz.f80 := by kernel_rfl
theorem e80 : entB Tryz.prog 80 = true := by kernel_rfl
theorem o80 : bodyOk (anL []) Tryz.f80 = true := by kernel_rfl
theorem w80 {ct : Ct} (ow : Nat → Bool) (ad : List Adj) {code : Code} (hb : Tryz.f80.body = some code) (hc : CtOk pg ct) {args : List V} {r : V} (ha : Nat.ble args.length 26 = true) (hr : r.noId = true) (h : exec ⟨pg, ct, ow, 26, anL []⟩ code ⟨argE args, hOf []⟩ (PostF pg.prog ad [.tmp 4] r [])) : PCall pg 80 args r := pcall_inF ad hc fol 80 n80 hb rfl e80 rfl (bodyOk_at o80 hb rfl) ha hr h
end Go.Abs
