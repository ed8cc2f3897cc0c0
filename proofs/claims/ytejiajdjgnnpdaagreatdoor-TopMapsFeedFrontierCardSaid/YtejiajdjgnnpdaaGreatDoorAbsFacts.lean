import Derived.Test.YtejiajdjgnnpdaaGreatDoorAbsK3
import Derived.Test.YtejiajdjgnnpdaaGreatDoorRows
import Derived.Lib.TrailingZeros
import Derived.Lib.ItoaNum
/- facts of this seat's program: its types and functions, by their numbers -/
namespace Go.Abs
open Go Go.Proofs
set_option maxRecDepth 100000
def tabs (w : World) : Prop := True
noncomputable def pg : PG := mkPG Tryz.prog 3 fun w => tabs w ∧ w.ShapedOpen Tryz.prog
theorem tabs_of {w : World} (l : List (String × DataW Unit)) (h : laidMet Tryz.prog l w) : tabs w := trivial

@[push_cast] theorem pg_prog : pg.prog = Tryz.prog := rfl
theorem fol : Tryz.prog.follows .mixedOrders = true := by kernel_rfl
@[push_cast] theorem t1 : ti Tryz.prog 1 = ⟨.func, 1, 8, some (.con .nilFunc)⟩ := by kernel_rfl
@[push_cast] theorem t2 : ti Tryz.prog 2 = ⟨(.int .i64), 1, 8, some (.int .i64 0)⟩ := by kernel_rfl
@[push_cast] theorem t3 : ti Tryz.prog 3 = ⟨(.int .i64), 1, 8, some (.int .i64 0)⟩ := by kernel_rfl
@[push_cast] theorem t4 : ti Tryz.prog 4 = ⟨.bool, 1, 1, some (.bool false)⟩ := by kernel_rfl
@[push_cast] theorem t5 : ti Tryz.prog 5 = ⟨(.int .u8), 1, 1, some (.int .u8 0)⟩ := by kernel_rfl
@[push_cast] theorem t6 : ti Tryz.prog 6 = ⟨(.int .u8), 1, 1, some (.int .u8 0)⟩ := by kernel_rfl
@[push_cast] theorem eq7 : EqOk Tryz.prog 7 = True := eq_true (eqOk_of (by kernel_rfl))
@[push_cast] theorem t7 : ti Tryz.prog 7 = ⟨(.struct [(0, 2), (1, 3), (2, 4), (3, 6)]), 4, 24, some (.agg [(.int .i64 0), (.int .i64 0), (.bool false), (.int .u8 0)])⟩ := by kernel_rfl
@[push_cast] theorem eq8 : EqOk Tryz.prog 8 = True := eq_true (eqOk_of (by kernel_rfl))
@[push_cast] theorem t8 : ti Tryz.prog 8 = ⟨(.struct [(0, 2), (1, 3), (2, 4), (3, 6)]), 4, 24, some (.agg [(.int .i64 0), (.int .i64 0), (.bool false), (.int .u8 0)])⟩ := by kernel_rfl
@[push_cast] theorem t9 : ti Tryz.prog 9 = ⟨.str, 1, 16, some (.str [])⟩ := by kernel_rfl
@[push_cast] theorem t10 : ti Tryz.prog 10 = ⟨.str, 1, 16, some (.str [])⟩ := by kernel_rfl
@[push_cast] theorem t11 : ti Tryz.prog 11 = ⟨.str, 1, 16, some (.str [])⟩ := by kernel_rfl
@[push_cast] theorem t12 : ti Tryz.prog 12 = ⟨(.int .u64), 1, 8, some (.int .u64 0)⟩ := by kernel_rfl
@[push_cast] theorem t13 : ti Tryz.prog 13 = ⟨(.struct [(0, 9), (1, 12)]), 2, 24, some (.agg [(.str []), (.int .u64 0)])⟩ := by kernel_rfl
@[push_cast] theorem t14 : ti Tryz.prog 14 = ⟨(.struct [(0, 9), (1, 12)]), 2, 24, some (.agg [(.str []), (.int .u64 0)])⟩ := by kernel_rfl
@[push_cast] theorem t15 : ti Tryz.prog 15 = ⟨(.ptr 203), 1, 8, some (.con (.pointer none))⟩ := by kernel_rfl
@[push_cast] theorem t16 : ti Tryz.prog 16 = ⟨(.ptr 206), 1, 8, some (.con (.pointer none))⟩ := by kernel_rfl
@[push_cast] theorem t17 : ti Tryz.prog 17 = ⟨(.ptr 214), 1, 8, some (.con (.pointer none))⟩ := by kernel_rfl
@[push_cast] theorem t18 : ti Tryz.prog 18 = ⟨(.struct [(0, 17)]), 1, 8, some (.agg [(.con (.pointer none))])⟩ := by kernel_rfl
@[push_cast] theorem t19 : ti Tryz.prog 19 = ⟨(.struct [(0, 17)]), 1, 8, some (.agg [(.con (.pointer none))])⟩ := by kernel_rfl
@[push_cast] theorem t20 : ti Tryz.prog 20 = ⟨.iface, 1, 16, some (.con .nilIface)⟩ := by kernel_rfl
@[push_cast] theorem t21 : ti Tryz.prog 21 = ⟨(.int .i32), 1, 4, some (.int .i32 0)⟩ := by kernel_rfl
@[push_cast] theorem t22 : ti Tryz.prog 22 = ⟨(.slice 59), 1, 24, some .nilsl⟩ := by kernel_rfl
@[push_cast] theorem t23 : ti Tryz.prog 23 = ⟨(.struct [(0, 4), (1, 22)]), 2, 32, some (.agg [(.bool false), .nilsl])⟩ := by kernel_rfl
@[push_cast] theorem t24 : ti Tryz.prog 24 = ⟨(.struct [(0, 4), (1, 22)]), 2, 32, some (.agg [(.bool false), .nilsl])⟩ := by kernel_rfl
@[push_cast] theorem t25 : ti Tryz.prog 25 = ⟨(.slice 100), 1, 24, some .nilsl⟩ := by kernel_rfl
@[push_cast] theorem t26 : ti Tryz.prog 26 = ⟨(.slice 147), 1, 24, some .nilsl⟩ := by kernel_rfl
@[push_cast] theorem t27 : ti Tryz.prog 27 = ⟨(.slice 9), 1, 24, some .nilsl⟩ := by kernel_rfl
@[push_cast] theorem t28 : ti Tryz.prog 28 = ⟨(.struct [(0, 26), (1, 27)]), 2, 48, some (.agg [.nilsl, .nilsl])⟩ := by kernel_rfl
@[push_cast] theorem t29 : ti Tryz.prog 29 = ⟨(.struct [(0, 26), (1, 27)]), 2, 48, some (.agg [.nilsl, .nilsl])⟩ := by kernel_rfl
@[push_cast] theorem t30 : ti Tryz.prog 30 = ⟨(.int .i64), 1, 8, some (.int .i64 0)⟩ := by kernel_rfl
@[push_cast] theorem t32 : ti Tryz.prog 32 = ⟨.func, 1, 8, some (.con .nilFunc)⟩ := by kernel_rfl
@[push_cast] theorem t33 : ti Tryz.prog 33 = ⟨.func, 1, 8, some (.con .nilFunc)⟩ := by kernel_rfl
@[push_cast] theorem t34 : ti Tryz.prog 34 = ⟨(.slice 51), 1, 24, some .nilsl⟩ := by kernel_rfl
@[push_cast] theorem t35 : ti Tryz.prog 35 = ⟨(.slice 119), 1, 24, some .nilsl⟩ := by kernel_rfl
@[push_cast] theorem t36 : ti Tryz.prog 36 = ⟨(.struct [(0, 34), (1, 35), (2, 3), (3, 3)]), 4, 64, some (.agg [.nilsl, .nilsl, (.int .i64 0), (.int .i64 0)])⟩ := by kernel_rfl
@[push_cast] theorem t37 : ti Tryz.prog 37 = ⟨(.struct [(0, 34), (1, 35), (2, 3), (3, 3)]), 4, 64, some (.agg [.nilsl, .nilsl, (.int .i64 0), (.int .i64 0)])⟩ := by kernel_rfl
@[push_cast] theorem eq38 : EqOk Tryz.prog 38 = True := eq_true (eqOk_of (by kernel_rfl))
@[push_cast] theorem t38 : ti Tryz.prog 38 = ⟨(.struct [(0, 9), (1, 9), (2, 9), (3, 9), (4, 9), (5, 4), (6, 9), (7, 4)]), 8, 112, some (.agg [(.str []), (.str []), (.str []), (.str []), (.str []), (.bool false), (.str []), (.bool false)])⟩ := by kernel_rfl
@[push_cast] theorem eq39 : EqOk Tryz.prog 39 = True := eq_true (eqOk_of (by kernel_rfl))
@[push_cast] theorem t39 : ti Tryz.prog 39 = ⟨(.struct [(0, 9), (1, 9), (2, 9), (3, 9), (4, 9), (5, 4), (6, 9), (7, 4)]), 8, 112, some (.agg [(.str []), (.str []), (.str []), (.str []), (.str []), (.bool false), (.str []), (.bool false)])⟩ := by kernel_rfl
@[push_cast] theorem t41 : ti Tryz.prog 41 = ⟨.func, 1, 8, some (.con .nilFunc)⟩ := by kernel_rfl
@[push_cast] theorem t43 : ti Tryz.prog 43 = ⟨.func, 1, 8, some (.con .nilFunc)⟩ := by kernel_rfl
@[push_cast] theorem t45 : ti Tryz.prog 45 = ⟨.func, 1, 8, some (.con .nilFunc)⟩ := by kernel_rfl
@[push_cast] theorem t47 : ti Tryz.prog 47 = ⟨.func, 1, 8, some (.con .nilFunc)⟩ := by kernel_rfl
@[push_cast] theorem t49 : ti Tryz.prog 49 = ⟨.func, 1, 8, some (.con .nilFunc)⟩ := by kernel_rfl
@[push_cast] theorem eq50 : EqOk Tryz.prog 50 = True := eq_true (eqOk_of (by kernel_rfl))
@[push_cast] theorem t50 : ti Tryz.prog 50 = ⟨(.struct [(0, 9), (1, 3), (2, 3)]), 3, 32, some (.agg [(.str []), (.int .i64 0), (.int .i64 0)])⟩ := by kernel_rfl
@[push_cast] theorem eq51 : EqOk Tryz.prog 51 = True := eq_true (eqOk_of (by kernel_rfl))
@[push_cast] theorem t51 : ti Tryz.prog 51 = ⟨(.struct [(0, 9), (1, 3), (2, 3)]), 3, 32, some (.agg [(.str []), (.int .i64 0), (.int .i64 0)])⟩ := by kernel_rfl
@[push_cast] theorem t52 : ti Tryz.prog 52 = ⟨.func, 1, 8, some (.con .nilFunc)⟩ := by kernel_rfl
@[push_cast] theorem t53 : ti Tryz.prog 53 = ⟨.func, 1, 8, some (.con .nilFunc)⟩ := by kernel_rfl
@[push_cast] theorem t55 : ti Tryz.prog 55 = ⟨.func, 1, 8, some (.con .nilFunc)⟩ := by kernel_rfl
@[push_cast] theorem t56 : ti Tryz.prog 56 = ⟨.func, 1, 8, some (.con .nilFunc)⟩ := by kernel_rfl
@[push_cast] theorem t57 : ti Tryz.prog 57 = ⟨.func, 1, 8, some (.con .nilFunc)⟩ := by kernel_rfl
@[push_cast] theorem eq58 : EqOk Tryz.prog 58 = True := eq_true (eqOk_of (by kernel_rfl))
@[push_cast] theorem t58 : ti Tryz.prog 58 = ⟨(.struct [(0, 9), (1, 3), (2, 3)]), 3, 32, some (.agg [(.str []), (.int .i64 0), (.int .i64 0)])⟩ := by kernel_rfl
@[push_cast] theorem eq59 : EqOk Tryz.prog 59 = True := eq_true (eqOk_of (by kernel_rfl))
@[push_cast] theorem t59 : ti Tryz.prog 59 = ⟨(.struct [(0, 9), (1, 3), (2, 3)]), 3, 32, some (.agg [(.str []), (.int .i64 0), (.int .i64 0)])⟩ := by kernel_rfl
@[push_cast] theorem t60 : ti Tryz.prog 60 = ⟨.func, 1, 8, some (.con .nilFunc)⟩ := by kernel_rfl
@[push_cast] theorem t61 : ti Tryz.prog 61 = ⟨.func, 1, 8, some (.con .nilFunc)⟩ := by kernel_rfl
@[push_cast] theorem t62 : ti Tryz.prog 62 = ⟨.func, 1, 8, some (.con .nilFunc)⟩ := by kernel_rfl
@[push_cast] theorem t64 : ti Tryz.prog 64 = ⟨.func, 1, 8, some (.con .nilFunc)⟩ := by kernel_rfl
@[push_cast] theorem t65 : ti Tryz.prog 65 = ⟨(.ptr 67), 1, 8, some (.con (.pointer none))⟩ := by kernel_rfl
@[push_cast] theorem t66 : ti Tryz.prog 66 = ⟨(.struct [(0, 9), (1, 3), (2, 39)]), 10, 136, some (.agg [(.str []), (.int .i64 0), (.str []), (.str []), (.str []), (.str []), (.str []), (.bool false), (.str []), (.bool false)])⟩ := by kernel_rfl
@[push_cast] theorem t67 : ti Tryz.prog 67 = ⟨(.struct [(0, 9), (1, 3), (2, 39)]), 10, 136, some (.agg [(.str []), (.int .i64 0), (.str []), (.str []), (.str []), (.str []), (.str []), (.bool false), (.str []), (.bool false)])⟩ := by kernel_rfl
@[push_cast] theorem t68 : ti Tryz.prog 68 = ⟨.func, 1, 8, some (.con .nilFunc)⟩ := by kernel_rfl
@[push_cast] theorem t69 : ti Tryz.prog 69 = ⟨.func, 1, 8, some (.con .nilFunc)⟩ := by kernel_rfl
@[push_cast] theorem t70 : ti Tryz.prog 70 = ⟨.func, 1, 8, some (.con .nilFunc)⟩ := by kernel_rfl
@[push_cast] theorem t71 : ti Tryz.prog 71 = ⟨.func, 1, 8, some (.con .nilFunc)⟩ := by kernel_rfl
@[push_cast] theorem t72 : ti Tryz.prog 72 = ⟨.func, 1, 8, some (.con .nilFunc)⟩ := by kernel_rfl
@[push_cast] theorem t73 : ti Tryz.prog 73 = ⟨.func, 1, 8, some (.con .nilFunc)⟩ := by kernel_rfl
@[push_cast] theorem t74 : ti Tryz.prog 74 = ⟨.func, 1, 8, some (.con .nilFunc)⟩ := by kernel_rfl
@[push_cast] theorem t75 : ti Tryz.prog 75 = ⟨.func, 1, 8, some (.con .nilFunc)⟩ := by kernel_rfl
@[push_cast] theorem t76 : ti Tryz.prog 76 = ⟨.func, 1, 8, some (.con .nilFunc)⟩ := by kernel_rfl
@[push_cast] theorem t77 : ti Tryz.prog 77 = ⟨.func, 1, 8, some (.con .nilFunc)⟩ := by kernel_rfl
@[push_cast] theorem t79 : ti Tryz.prog 79 = ⟨.func, 1, 8, some (.con .nilFunc)⟩ := by kernel_rfl
@[push_cast] theorem t80 : ti Tryz.prog 80 = ⟨.func, 1, 8, some (.con .nilFunc)⟩ := by kernel_rfl
@[push_cast] theorem t81 : ti Tryz.prog 81 = ⟨.func, 1, 8, some (.con .nilFunc)⟩ := by kernel_rfl
@[push_cast] theorem t82 : ti Tryz.prog 82 = ⟨.func, 1, 8, some (.con .nilFunc)⟩ := by kernel_rfl
@[push_cast] theorem t83 : ti Tryz.prog 83 = ⟨.func, 1, 8, some (.con .nilFunc)⟩ := by kernel_rfl
@[push_cast] theorem t84 : ti Tryz.prog 84 = ⟨.func, 1, 8, some (.con .nilFunc)⟩ := by kernel_rfl
@[push_cast] theorem t85 : ti Tryz.prog 85 = ⟨.func, 1, 8, some (.con .nilFunc)⟩ := by kernel_rfl
@[push_cast] theorem t86 : ti Tryz.prog 86 = ⟨(.int .u64), 1, 8, some (.int .u64 0)⟩ := by kernel_rfl
@[push_cast] theorem t87 : ti Tryz.prog 87 = ⟨.func, 1, 8, some (.con .nilFunc)⟩ := by kernel_rfl
@[push_cast] theorem t88 : ti Tryz.prog 88 = ⟨.func, 1, 8, some (.con .nilFunc)⟩ := by kernel_rfl
@[push_cast] theorem t89 : ti Tryz.prog 89 = ⟨.func, 1, 8, some (.con .nilFunc)⟩ := by kernel_rfl
@[push_cast] theorem t90 : ti Tryz.prog 90 = ⟨.func, 1, 8, some (.con .nilFunc)⟩ := by kernel_rfl
@[push_cast] theorem t91 : ti Tryz.prog 91 = ⟨.func, 1, 8, some (.con .nilFunc)⟩ := by kernel_rfl
@[push_cast] theorem t92 : ti Tryz.prog 92 = ⟨.func, 1, 8, some (.con .nilFunc)⟩ := by kernel_rfl
@[push_cast] theorem t93 : ti Tryz.prog 93 = ⟨.func, 1, 8, some (.con .nilFunc)⟩ := by kernel_rfl
@[push_cast] theorem t94 : ti Tryz.prog 94 = ⟨.func, 1, 8, some (.con .nilFunc)⟩ := by kernel_rfl
@[push_cast] theorem t95 : ti Tryz.prog 95 = ⟨.func, 1, 8, some (.con .nilFunc)⟩ := by kernel_rfl
@[push_cast] theorem t96 : ti Tryz.prog 96 = ⟨.func, 1, 8, some (.con .nilFunc)⟩ := by kernel_rfl
@[push_cast] theorem t98 : ti Tryz.prog 98 = ⟨.func, 1, 8, some (.con .nilFunc)⟩ := by kernel_rfl
@[push_cast] theorem eq99 : EqOk Tryz.prog 99 = True := eq_true (eqOk_of (by kernel_rfl))
@[push_cast] theorem t99 : ti Tryz.prog 99 = ⟨(.struct [(0, 3), (1, 9)]), 2, 24, some (.agg [(.int .i64 0), (.str [])])⟩ := by kernel_rfl
@[push_cast] theorem eq100 : EqOk Tryz.prog 100 = True := eq_true (eqOk_of (by kernel_rfl))
@[push_cast] theorem t100 : ti Tryz.prog 100 = ⟨(.struct [(0, 3), (1, 9)]), 2, 24, some (.agg [(.int .i64 0), (.str [])])⟩ := by kernel_rfl
@[push_cast] theorem t101 : ti Tryz.prog 101 = ⟨.func, 1, 8, some (.con .nilFunc)⟩ := by kernel_rfl
@[push_cast] theorem t102 : ti Tryz.prog 102 = ⟨.func, 1, 8, some (.con .nilFunc)⟩ := by kernel_rfl
@[push_cast] theorem t103 : ti Tryz.prog 103 = ⟨.func, 1, 8, some (.con .nilFunc)⟩ := by kernel_rfl
@[push_cast] theorem t104 : ti Tryz.prog 104 = ⟨.func, 1, 8, some (.con .nilFunc)⟩ := by kernel_rfl
@[push_cast] theorem t105 : ti Tryz.prog 105 = ⟨.func, 1, 8, some (.con .nilFunc)⟩ := by kernel_rfl
@[push_cast] theorem t106 : ti Tryz.prog 106 = ⟨.func, 1, 8, some (.con .nilFunc)⟩ := by kernel_rfl
@[push_cast] theorem t108 : ti Tryz.prog 108 = ⟨.func, 1, 8, some (.con .nilFunc)⟩ := by kernel_rfl
@[push_cast] theorem t109 : ti Tryz.prog 109 = ⟨.func, 1, 8, some (.con .nilFunc)⟩ := by kernel_rfl
@[push_cast] theorem t110 : ti Tryz.prog 110 = ⟨(.slice 115), 1, 24, some .nilsl⟩ := by kernel_rfl
@[push_cast] theorem t112 : ti Tryz.prog 112 = ⟨.func, 1, 8, some (.con .nilFunc)⟩ := by kernel_rfl
@[push_cast] theorem t113 : ti Tryz.prog 113 = ⟨.func, 1, 8, some (.con .nilFunc)⟩ := by kernel_rfl
@[push_cast] theorem eq114 : EqOk Tryz.prog 114 = True := eq_true (eqOk_of (by kernel_rfl))
@[push_cast] theorem t114 : ti Tryz.prog 114 = ⟨(.struct [(0, 4), (1, 9)]), 2, 24, some (.agg [(.bool false), (.str [])])⟩ := by kernel_rfl
@[push_cast] theorem eq115 : EqOk Tryz.prog 115 = True := eq_true (eqOk_of (by kernel_rfl))
@[push_cast] theorem t115 : ti Tryz.prog 115 = ⟨(.struct [(0, 4), (1, 9)]), 2, 24, some (.agg [(.bool false), (.str [])])⟩ := by kernel_rfl
@[push_cast] theorem t116 : ti Tryz.prog 116 = ⟨.func, 1, 8, some (.con .nilFunc)⟩ := by kernel_rfl
@[push_cast] theorem t117 : ti Tryz.prog 117 = ⟨(.slice 3), 1, 24, some .nilsl⟩ := by kernel_rfl
@[push_cast] theorem t118 : ti Tryz.prog 118 = ⟨(.struct [(0, 9), (1, 3), (2, 4), (3, 117)]), 4, 56, some (.agg [(.str []), (.int .i64 0), (.bool false), .nilsl])⟩ := by kernel_rfl
@[push_cast] theorem t119 : ti Tryz.prog 119 = ⟨(.struct [(0, 9), (1, 3), (2, 4), (3, 117)]), 4, 56, some (.agg [(.str []), (.int .i64 0), (.bool false), .nilsl])⟩ := by kernel_rfl
@[push_cast] theorem t120 : ti Tryz.prog 120 = ⟨.func, 1, 8, some (.con .nilFunc)⟩ := by kernel_rfl
@[push_cast] theorem t121 : ti Tryz.prog 121 = ⟨.func, 1, 8, some (.con .nilFunc)⟩ := by kernel_rfl
@[push_cast] theorem t122 : ti Tryz.prog 122 = ⟨.func, 1, 8, some (.con .nilFunc)⟩ := by kernel_rfl
@[push_cast] theorem t123 : ti Tryz.prog 123 = ⟨.func, 1, 8, some (.con .nilFunc)⟩ := by kernel_rfl
@[push_cast] theorem t124 : ti Tryz.prog 124 = ⟨.func, 1, 8, some (.con .nilFunc)⟩ := by kernel_rfl
@[push_cast] theorem t125 : ti Tryz.prog 125 = ⟨.func, 1, 8, some (.con .nilFunc)⟩ := by kernel_rfl
@[push_cast] theorem t126 : ti Tryz.prog 126 = ⟨.func, 1, 8, some (.con .nilFunc)⟩ := by kernel_rfl
@[push_cast] theorem t127 : ti Tryz.prog 127 = ⟨(.int .i64), 1, 8, some (.int .i64 0)⟩ := by kernel_rfl
@[push_cast] theorem t129 : ti Tryz.prog 129 = ⟨.func, 1, 8, some (.con .nilFunc)⟩ := by kernel_rfl
@[push_cast] theorem t130 : ti Tryz.prog 130 = ⟨.func, 1, 8, some (.con .nilFunc)⟩ := by kernel_rfl
@[push_cast] theorem t131 : ti Tryz.prog 131 = ⟨.func, 1, 8, some (.con .nilFunc)⟩ := by kernel_rfl
@[push_cast] theorem t132 : ti Tryz.prog 132 = ⟨.func, 1, 8, some (.con .nilFunc)⟩ := by kernel_rfl
@[push_cast] theorem t133 : ti Tryz.prog 133 = ⟨.func, 1, 8, some (.con .nilFunc)⟩ := by kernel_rfl
@[push_cast] theorem t134 : ti Tryz.prog 134 = ⟨(.int .u32), 1, 4, some (.int .u32 0)⟩ := by kernel_rfl
@[push_cast] theorem t135 : ti Tryz.prog 135 = ⟨.func, 1, 8, some (.con .nilFunc)⟩ := by kernel_rfl
@[push_cast] theorem t136 : ti Tryz.prog 136 = ⟨(.int .u64), 1, 8, some (.int .u64 0)⟩ := by kernel_rfl
@[push_cast] theorem t137 : ti Tryz.prog 137 = ⟨.func, 1, 8, some (.con .nilFunc)⟩ := by kernel_rfl
@[push_cast] theorem t138 : ti Tryz.prog 138 = ⟨.func, 1, 8, some (.con .nilFunc)⟩ := by kernel_rfl
@[push_cast] theorem t139 : ti Tryz.prog 139 = ⟨.func, 1, 8, some (.con .nilFunc)⟩ := by kernel_rfl
@[push_cast] theorem t140 : ti Tryz.prog 140 = ⟨(.slice 5), 1, 24, some .nilsl⟩ := by kernel_rfl
@[push_cast] theorem t141 : ti Tryz.prog 141 = ⟨.func, 1, 8, some (.con .nilFunc)⟩ := by kernel_rfl
@[push_cast] theorem t142 : ti Tryz.prog 142 = ⟨.func, 1, 8, some (.con .nilFunc)⟩ := by kernel_rfl
@[push_cast] theorem t143 : ti Tryz.prog 143 = ⟨.func, 1, 8, some (.con .nilFunc)⟩ := by kernel_rfl
@[push_cast] theorem t144 : ti Tryz.prog 144 = ⟨.func, 1, 8, some (.con .nilFunc)⟩ := by kernel_rfl
@[push_cast] theorem t145 : ti Tryz.prog 145 = ⟨.func, 1, 8, some (.con .nilFunc)⟩ := by kernel_rfl
@[push_cast] theorem t146 : ti Tryz.prog 146 = ⟨(.struct [(0, 27), (1, 110), (2, 3)]), 3, 56, some (.agg [.nilsl, .nilsl, (.int .i64 0)])⟩ := by kernel_rfl
@[push_cast] theorem t147 : ti Tryz.prog 147 = ⟨(.struct [(0, 27), (1, 110), (2, 3)]), 3, 56, some (.agg [.nilsl, .nilsl, (.int .i64 0)])⟩ := by kernel_rfl
@[push_cast] theorem t148 : ti Tryz.prog 148 = ⟨.func, 1, 8, some (.con .nilFunc)⟩ := by kernel_rfl
@[push_cast] theorem t149 : ti Tryz.prog 149 = ⟨.func, 1, 8, some (.con .nilFunc)⟩ := by kernel_rfl
@[push_cast] theorem t150 : ti Tryz.prog 150 = ⟨(.int .u64), 1, 8, some (.int .u64 0)⟩ := by kernel_rfl
@[push_cast] theorem t151 : ti Tryz.prog 151 = ⟨.func, 1, 8, some (.con .nilFunc)⟩ := by kernel_rfl
@[push_cast] theorem t152 : ti Tryz.prog 152 = ⟨.func, 1, 8, some (.con .nilFunc)⟩ := by kernel_rfl
@[push_cast] theorem t153 : ti Tryz.prog 153 = ⟨.func, 1, 8, some (.con .nilFunc)⟩ := by kernel_rfl
@[push_cast] theorem t154 : ti Tryz.prog 154 = ⟨(.ptr 3), 1, 8, some (.con (.pointer none))⟩ := by kernel_rfl
@[push_cast] theorem t155 : ti Tryz.prog 155 = ⟨.func, 1, 8, some (.con .nilFunc)⟩ := by kernel_rfl
@[push_cast] theorem t156 : ti Tryz.prog 156 = ⟨.func, 1, 8, some (.con .nilFunc)⟩ := by kernel_rfl
@[push_cast] theorem t157 : ti Tryz.prog 157 = ⟨.func, 1, 8, some (.con .nilFunc)⟩ := by kernel_rfl
@[push_cast] theorem t158 : ti Tryz.prog 158 = ⟨(.arr 256 4), 256, 256, some (.agg [(.bool false), (.bool false), (.bool false), (.bool false), (.bool false), (.bool false), (.bool false), (.bool false), (.bool false), (.bool false), (.bool false), (.bool false), (.bool false), (.bool false), (.bool false), (.bool false), (.bool false), (.bool false), (.bool false), (.bool false), (.bool false), (.bool false), (.bool false), (.bool false), (.bool false), (.bool false), (.bool false), (.bool false), (.bool false), (.bool false), (.bool false), (.bool false), (.bool false), (.bool false), (.bool false), (.bool false), (.bool false), (.bool false), (.bool false), (.bool false), (.bool false), (.bool false), (.bool false), (.bool false), (.bool false), (.bool false), (.bool false), (.bool false), (.bool false), (.bool false), (.bool false), (.bool false), (.bool false), (.bool false), (.bool false), (.bool false), (.bool false), (.bool false), (.bool false), (.bool false), (.bool false), (.bool false), (.bool false), (.bool false), (.bool false), (.bool false), (.bool false), (.bool false), (.bool false), (.bool false), (.bool false), (.bool false), (.bool false), (.bool false), (.bool false), (.bool false), (.bool false), (.bool false), (.bool false), (.bool false), (.bool false), (.bool false), (.bool false), (.bool false), (.bool false), (.bool false), (.bool false), (.bool false), (.bool false), (.bool false), (.bool false), (.bool false), (.bool false), (.bool false), (.bool false), (.bool false), (.bool false), (.bool false), (.bool false), (.bool false), (.bool false), (.bool false), (.bool false), (.bool false), (.bool false), (.bool false), (.bool false), (.bool false), (.bool false), (.bool false), (.bool false), (.bool false), (.bool false), (.bool false), (.bool false), (.bool false), (.bool false), (.bool false), (.bool false), (.bool false), (.bool false), (.bool false), (.bool false), (.bool false), (.bool false), (.bool false), (.bool false), (.bool false), (.bool false), (.bool false), (.bool false), (.bool false), (.bool false), (.bool false), (.bool false), (.bool false), (.bool false), (.bool false), (.bool false), (.bool false), (.bool false), (.bool false), (.bool false), (.bool false), (.bool false), (.bool false), (.bool false), (.bool false), (.bool false), (.bool false), (.bool false), (.bool false), (.bool false), (.bool false), (.bool false), (.bool false), (.bool false), (.bool false), (.bool false), (.bool false), (.bool false), (.bool false), (.bool false), (.bool false), (.bool false), (.bool false), (.bool false), (.bool false), (.bool false), (.bool false), (.bool false), (.bool false), (.bool false), (.bool false), (.bool false), (.bool false), (.bool false), (.bool false), (.bool false), (.bool false), (.bool false), (.bool false), (.bool false), (.bool false), (.bool false), (.bool false), (.bool false), (.bool false), (.bool false), (.bool false), (.bool false), (.bool false), (.bool false), (.bool false), (.bool false), (.bool false), (.bool false), (.bool false), (.bool false), (.bool false), (.bool false), (.bool false), (.bool false), (.bool false), (.bool false), (.bool false), (.bool false), (.bool false), (.bool false), (.bool false), (.bool false), (.bool false), (.bool false), (.bool false), (.bool false), (.bool false), (.bool false), (.bool false), (.bool false), (.bool false), (.bool false), (.bool false), (.bool false), (.bool false), (.bool false), (.bool false), (.bool false), (.bool false), (.bool false), (.bool false), (.bool false), (.bool false), (.bool false), (.bool false), (.bool false), (.bool false), (.bool false), (.bool false), (.bool false), (.bool false), (.bool false), (.bool false), (.bool false), (.bool false), (.bool false), (.bool false), (.bool false), (.bool false), (.bool false), (.bool false), (.bool false), (.bool false), (.bool false), (.bool false), (.bool false), (.bool false)])⟩ := by kernel_rfl
@[push_cast] theorem t159 : ti Tryz.prog 159 = ⟨(.arr 256 4), 256, 256, some (.agg [(.bool false), (.bool false), (.bool false), (.bool false), (.bool false), (.bool false), (.bool false), (.bool false), (.bool false), (.bool false), (.bool false), (.bool false), (.bool false), (.bool false), (.bool false), (.bool false), (.bool false), (.bool false), (.bool false), (.bool false), (.bool false), (.bool false), (.bool false), (.bool false), (.bool false), (.bool false), (.bool false), (.bool false), (.bool false), (.bool false), (.bool false), (.bool false), (.bool false), (.bool false), (.bool false), (.bool false), (.bool false), (.bool false), (.bool false), (.bool false), (.bool false), (.bool false), (.bool false), (.bool false), (.bool false), (.bool false), (.bool false), (.bool false), (.bool false), (.bool false), (.bool false), (.bool false), (.bool false), (.bool false), (.bool false), (.bool false), (.bool false), (.bool false), (.bool false), (.bool false), (.bool false), (.bool false), (.bool false), (.bool false), (.bool false), (.bool false), (.bool false), (.bool false), (.bool false), (.bool false), (.bool false), (.bool false), (.bool false), (.bool false), (.bool false), (.bool false), (.bool false), (.bool false), (.bool false), (.bool false), (.bool false), (.bool false), (.bool false), (.bool false), (.bool false), (.bool false), (.bool false), (.bool false), (.bool false), (.bool false), (.bool false), (.bool false), (.bool false), (.bool false), (.bool false), (.bool false), (.bool false), (.bool false), (.bool false), (.bool false), (.bool false), (.bool false), (.bool false), (.bool false), (.bool false), (.bool false), (.bool false), (.bool false), (.bool false), (.bool false), (.bool false), (.bool false), (.bool false), (.bool false), (.bool false), (.bool false), (.bool false), (.bool false), (.bool false), (.bool false), (.bool false), (.bool false), (.bool false), (.bool false), (.bool false), (.bool false), (.bool false), (.bool false), (.bool false), (.bool false), (.bool false), (.bool false), (.bool false), (.bool false), (.bool false), (.bool false), (.bool false), (.bool false), (.bool false), (.bool false), (.bool false), (.bool false), (.bool false), (.bool false), (.bool false), (.bool false), (.bool false), (.bool false), (.bool false), (.bool false), (.bool false), (.bool false), (.bool false), (.bool false), (.bool false), (.bool false), (.bool false), (.bool false), (.bool false), (.bool false), (.bool false), (.bool false), (.bool false), (.bool false), (.bool false), (.bool false), (.bool false), (.bool false), (.bool false), (.bool false), (.bool false), (.bool false), (.bool false), (.bool false), (.bool false), (.bool false), (.bool false), (.bool false), (.bool false), (.bool false), (.bool false), (.bool false), (.bool false), (.bool false), (.bool false), (.bool false), (.bool false), (.bool false), (.bool false), (.bool false), (.bool false), (.bool false), (.bool false), (.bool false), (.bool false), (.bool false), (.bool false), (.bool false), (.bool false), (.bool false), (.bool false), (.bool false), (.bool false), (.bool false), (.bool false), (.bool false), (.bool false), (.bool false), (.bool false), (.bool false), (.bool false), (.bool false), (.bool false), (.bool false), (.bool false), (.bool false), (.bool false), (.bool false), (.bool false), (.bool false), (.bool false), (.bool false), (.bool false), (.bool false), (.bool false), (.bool false), (.bool false), (.bool false), (.bool false), (.bool false), (.bool false), (.bool false), (.bool false), (.bool false), (.bool false), (.bool false), (.bool false), (.bool false), (.bool false), (.bool false), (.bool false), (.bool false), (.bool false), (.bool false), (.bool false), (.bool false), (.bool false), (.bool false), (.bool false), (.bool false), (.bool false), (.bool false), (.bool false), (.bool false), (.bool false), (.bool false)])⟩ := by kernel_rfl
@[push_cast] theorem t161 : ti Tryz.prog 161 = ⟨.func, 1, 8, some (.con .nilFunc)⟩ := by kernel_rfl
@[push_cast] theorem t162 : ti Tryz.prog 162 = ⟨.func, 1, 8, some (.con .nilFunc)⟩ := by kernel_rfl
@[push_cast] theorem t163 : ti Tryz.prog 163 = ⟨(.ptr 159), 1, 8, some (.con (.pointer none))⟩ := by kernel_rfl
@[push_cast] theorem t164 : ti Tryz.prog 164 = ⟨.func, 1, 8, some (.con .nilFunc)⟩ := by kernel_rfl
@[push_cast] theorem t165 : ti Tryz.prog 165 = ⟨.func, 1, 8, some (.con .nilFunc)⟩ := by kernel_rfl
@[push_cast] theorem t166 : ti Tryz.prog 166 = ⟨.func, 1, 8, some (.con .nilFunc)⟩ := by kernel_rfl
@[push_cast] theorem t167 : ti Tryz.prog 167 = ⟨(.ptr 169), 1, 8, some (.con (.pointer none))⟩ := by kernel_rfl
@[push_cast] theorem t168 : ti Tryz.prog 168 = ⟨(.struct [(0, 167), (1, 140)]), 2, 32, some (.agg [(.con (.pointer none)), .nilsl])⟩ := by kernel_rfl
@[push_cast] theorem t169 : ti Tryz.prog 169 = ⟨(.struct [(0, 167), (1, 140)]), 2, 32, some (.agg [(.con (.pointer none)), .nilsl])⟩ := by kernel_rfl
@[push_cast] theorem t170 : ti Tryz.prog 170 = ⟨.func, 1, 8, some (.con .nilFunc)⟩ := by kernel_rfl
@[push_cast] theorem t171 : ti Tryz.prog 171 = ⟨.iface, 1, 16, some (.con .nilIface)⟩ := by kernel_rfl
@[push_cast] theorem t172 : ti Tryz.prog 172 = ⟨.iface, 1, 16, some (.con .nilIface)⟩ := by kernel_rfl
@[push_cast] theorem t174 : ti Tryz.prog 174 = ⟨.func, 1, 8, some (.con .nilFunc)⟩ := by kernel_rfl
@[push_cast] theorem t175 : ti Tryz.prog 175 = ⟨.func, 1, 8, some (.con .nilFunc)⟩ := by kernel_rfl
@[push_cast] theorem t176 : ti Tryz.prog 176 = ⟨.func, 1, 8, some (.con .nilFunc)⟩ := by kernel_rfl
@[push_cast] theorem t177 : ti Tryz.prog 177 = ⟨.func, 1, 8, some (.con .nilFunc)⟩ := by kernel_rfl
@[push_cast] theorem t178 : ti Tryz.prog 178 = ⟨(.ptr 150), 1, 8, some (.con (.pointer none))⟩ := by kernel_rfl
@[push_cast] theorem t180 : ti Tryz.prog 180 = ⟨.func, 1, 8, some (.con .nilFunc)⟩ := by kernel_rfl
@[push_cast] theorem t181 : ti Tryz.prog 181 = ⟨.func, 1, 8, some (.con .nilFunc)⟩ := by kernel_rfl
@[push_cast] theorem t182 : ti Tryz.prog 182 = ⟨.func, 1, 8, some (.con .nilFunc)⟩ := by kernel_rfl
@[push_cast] theorem t183 : ti Tryz.prog 183 = ⟨.func, 1, 8, some (.con .nilFunc)⟩ := by kernel_rfl
@[push_cast] theorem t185 : ti Tryz.prog 185 = ⟨.func, 1, 8, some (.con .nilFunc)⟩ := by kernel_rfl
@[push_cast] theorem t186 : ti Tryz.prog 186 = ⟨.func, 1, 8, some (.con .nilFunc)⟩ := by kernel_rfl
@[push_cast] theorem t187 : ti Tryz.prog 187 = ⟨.func, 1, 8, some (.con .nilFunc)⟩ := by kernel_rfl
@[push_cast] theorem t188 : ti Tryz.prog 188 = ⟨.func, 1, 8, some (.con .nilFunc)⟩ := by kernel_rfl
@[push_cast] theorem t189 : ti Tryz.prog 189 = ⟨(.ptr 5), 1, 8, some (.con (.pointer none))⟩ := by kernel_rfl
@[push_cast] theorem t190 : ti Tryz.prog 190 = ⟨(.slice 4), 1, 24, some .nilsl⟩ := by kernel_rfl
@[push_cast] theorem t191 : ti Tryz.prog 191 = ⟨.func, 1, 8, some (.con .nilFunc)⟩ := by kernel_rfl
@[push_cast] theorem t192 : ti Tryz.prog 192 = ⟨.other, 1, 8, some (.con (.pointer none))⟩ := by kernel_rfl
@[push_cast] theorem t193 : ti Tryz.prog 193 = ⟨.func, 1, 8, some (.con .nilFunc)⟩ := by kernel_rfl
@[push_cast] theorem t194 : ti Tryz.prog 194 = ⟨.func, 1, 8, some (.con .nilFunc)⟩ := by kernel_rfl
@[push_cast] theorem t196 : ti Tryz.prog 196 = ⟨.func, 1, 8, some (.con .nilFunc)⟩ := by kernel_rfl
@[push_cast] theorem t197 : ti Tryz.prog 197 = ⟨.func, 1, 8, some (.con .nilFunc)⟩ := by kernel_rfl
@[push_cast] theorem t198 : ti Tryz.prog 198 = ⟨(.arr 256 5), 256, 256, some (.agg [(.int .u8 0), (.int .u8 0), (.int .u8 0), (.int .u8 0), (.int .u8 0), (.int .u8 0), (.int .u8 0), (.int .u8 0), (.int .u8 0), (.int .u8 0), (.int .u8 0), (.int .u8 0), (.int .u8 0), (.int .u8 0), (.int .u8 0), (.int .u8 0), (.int .u8 0), (.int .u8 0), (.int .u8 0), (.int .u8 0), (.int .u8 0), (.int .u8 0), (.int .u8 0), (.int .u8 0), (.int .u8 0), (.int .u8 0), (.int .u8 0), (.int .u8 0), (.int .u8 0), (.int .u8 0), (.int .u8 0), (.int .u8 0), (.int .u8 0), (.int .u8 0), (.int .u8 0), (.int .u8 0), (.int .u8 0), (.int .u8 0), (.int .u8 0), (.int .u8 0), (.int .u8 0), (.int .u8 0), (.int .u8 0), (.int .u8 0), (.int .u8 0), (.int .u8 0), (.int .u8 0), (.int .u8 0), (.int .u8 0), (.int .u8 0), (.int .u8 0), (.int .u8 0), (.int .u8 0), (.int .u8 0), (.int .u8 0), (.int .u8 0), (.int .u8 0), (.int .u8 0), (.int .u8 0), (.int .u8 0), (.int .u8 0), (.int .u8 0), (.int .u8 0), (.int .u8 0), (.int .u8 0), (.int .u8 0), (.int .u8 0), (.int .u8 0), (.int .u8 0), (.int .u8 0), (.int .u8 0), (.int .u8 0), (.int .u8 0), (.int .u8 0), (.int .u8 0), (.int .u8 0), (.int .u8 0), (.int .u8 0), (.int .u8 0), (.int .u8 0), (.int .u8 0), (.int .u8 0), (.int .u8 0), (.int .u8 0), (.int .u8 0), (.int .u8 0), (.int .u8 0), (.int .u8 0), (.int .u8 0), (.int .u8 0), (.int .u8 0), (.int .u8 0), (.int .u8 0), (.int .u8 0), (.int .u8 0), (.int .u8 0), (.int .u8 0), (.int .u8 0), (.int .u8 0), (.int .u8 0), (.int .u8 0), (.int .u8 0), (.int .u8 0), (.int .u8 0), (.int .u8 0), (.int .u8 0), (.int .u8 0), (.int .u8 0), (.int .u8 0), (.int .u8 0), (.int .u8 0), (.int .u8 0), (.int .u8 0), (.int .u8 0), (.int .u8 0), (.int .u8 0), (.int .u8 0), (.int .u8 0), (.int .u8 0), (.int .u8 0), (.int .u8 0), (.int .u8 0), (.int .u8 0), (.int .u8 0), (.int .u8 0), (.int .u8 0), (.int .u8 0), (.int .u8 0), (.int .u8 0), (.int .u8 0), (.int .u8 0), (.int .u8 0), (.int .u8 0), (.int .u8 0), (.int .u8 0), (.int .u8 0), (.int .u8 0), (.int .u8 0), (.int .u8 0), (.int .u8 0), (.int .u8 0), (.int .u8 0), (.int .u8 0), (.int .u8 0), (.int .u8 0), (.int .u8 0), (.int .u8 0), (.int .u8 0), (.int .u8 0), (.int .u8 0), (.int .u8 0), (.int .u8 0), (.int .u8 0), (.int .u8 0), (.int .u8 0), (.int .u8 0), (.int .u8 0), (.int .u8 0), (.int .u8 0), (.int .u8 0), (.int .u8 0), (.int .u8 0), (.int .u8 0), (.int .u8 0), (.int .u8 0), (.int .u8 0), (.int .u8 0), (.int .u8 0), (.int .u8 0), (.int .u8 0), (.int .u8 0), (.int .u8 0), (.int .u8 0), (.int .u8 0), (.int .u8 0), (.int .u8 0), (.int .u8 0), (.int .u8 0), (.int .u8 0), (.int .u8 0), (.int .u8 0), (.int .u8 0), (.int .u8 0), (.int .u8 0), (.int .u8 0), (.int .u8 0), (.int .u8 0), (.int .u8 0), (.int .u8 0), (.int .u8 0), (.int .u8 0), (.int .u8 0), (.int .u8 0), (.int .u8 0), (.int .u8 0), (.int .u8 0), (.int .u8 0), (.int .u8 0), (.int .u8 0), (.int .u8 0), (.int .u8 0), (.int .u8 0), (.int .u8 0), (.int .u8 0), (.int .u8 0), (.int .u8 0), (.int .u8 0), (.int .u8 0), (.int .u8 0), (.int .u8 0), (.int .u8 0), (.int .u8 0), (.int .u8 0), (.int .u8 0), (.int .u8 0), (.int .u8 0), (.int .u8 0), (.int .u8 0), (.int .u8 0), (.int .u8 0), (.int .u8 0), (.int .u8 0), (.int .u8 0), (.int .u8 0), (.int .u8 0), (.int .u8 0), (.int .u8 0), (.int .u8 0), (.int .u8 0), (.int .u8 0), (.int .u8 0), (.int .u8 0), (.int .u8 0), (.int .u8 0), (.int .u8 0), (.int .u8 0), (.int .u8 0), (.int .u8 0), (.int .u8 0), (.int .u8 0), (.int .u8 0), (.int .u8 0), (.int .u8 0), (.int .u8 0), (.int .u8 0), (.int .u8 0), (.int .u8 0), (.int .u8 0), (.int .u8 0), (.int .u8 0), (.int .u8 0), (.int .u8 0), (.int .u8 0), (.int .u8 0), (.int .u8 0), (.int .u8 0)])⟩ := by kernel_rfl
@[push_cast] theorem eq199 : EqOk Tryz.prog 199 = True := eq_true (eqOk_of (by kernel_rfl))
@[push_cast] theorem t199 : ti Tryz.prog 199 = ⟨(.struct [(0, 5), (1, 5)]), 2, 2, some (.agg [(.int .u8 0), (.int .u8 0)])⟩ := by kernel_rfl
@[push_cast] theorem eq200 : EqOk Tryz.prog 200 = True := eq_true (eqOk_of (by kernel_rfl))
@[push_cast] theorem t200 : ti Tryz.prog 200 = ⟨(.struct [(0, 5), (1, 5)]), 2, 2, some (.agg [(.int .u8 0), (.int .u8 0)])⟩ := by kernel_rfl
@[push_cast] theorem t201 : ti Tryz.prog 201 = ⟨(.arr 16 200), 32, 32, some (.agg [(.int .u8 0), (.int .u8 0), (.int .u8 0), (.int .u8 0), (.int .u8 0), (.int .u8 0), (.int .u8 0), (.int .u8 0), (.int .u8 0), (.int .u8 0), (.int .u8 0), (.int .u8 0), (.int .u8 0), (.int .u8 0), (.int .u8 0), (.int .u8 0), (.int .u8 0), (.int .u8 0), (.int .u8 0), (.int .u8 0), (.int .u8 0), (.int .u8 0), (.int .u8 0), (.int .u8 0), (.int .u8 0), (.int .u8 0), (.int .u8 0), (.int .u8 0), (.int .u8 0), (.int .u8 0), (.int .u8 0), (.int .u8 0)])⟩ := by kernel_rfl
@[push_cast] theorem t202 : ti Tryz.prog 202 = ⟨(.struct [(0, 17), (1, 17), (2, 17), (3, 9)]), 4, 40, some (.agg [(.con (.pointer none)), (.con (.pointer none)), (.con (.pointer none)), (.str [])])⟩ := by kernel_rfl
@[push_cast] theorem t203 : ti Tryz.prog 203 = ⟨(.struct [(0, 17), (1, 17), (2, 17), (3, 9)]), 4, 40, some (.agg [(.con (.pointer none)), (.con (.pointer none)), (.con (.pointer none)), (.str [])])⟩ := by kernel_rfl
@[push_cast] theorem t204 : ti Tryz.prog 204 = ⟨(.arr 0 16), 0, 0, some (.agg [])⟩ := by kernel_rfl
@[push_cast] theorem t205 : ti Tryz.prog 205 = ⟨(.struct [(0, 204)]), 0, 0, some (.agg [])⟩ := by kernel_rfl
@[push_cast] theorem t206 : ti Tryz.prog 206 = ⟨(.struct [(0, 204)]), 0, 0, some (.agg [])⟩ := by kernel_rfl
@[push_cast] theorem t207 : ti Tryz.prog 207 = ⟨.func, 1, 8, some (.con .nilFunc)⟩ := by kernel_rfl
@[push_cast] theorem t208 : ti Tryz.prog 208 = ⟨(.int .u8), 1, 1, some (.int .u8 0)⟩ := by kernel_rfl
@[push_cast] theorem t209 : ti Tryz.prog 209 = ⟨(.int .u8), 1, 1, some (.int .u8 0)⟩ := by kernel_rfl
@[push_cast] theorem t210 : ti Tryz.prog 210 = ⟨.func, 1, 8, some (.con .nilFunc)⟩ := by kernel_rfl
@[push_cast] theorem t211 : ti Tryz.prog 211 = ⟨(.int .i32), 1, 4, some (.int .i32 0)⟩ := by kernel_rfl
@[push_cast] theorem t212 : ti Tryz.prog 212 = ⟨(.int .i32), 1, 4, some (.int .i32 0)⟩ := by kernel_rfl
@[push_cast] theorem t213 : ti Tryz.prog 213 = ⟨(.struct [(0, 12), (1, 12), (2, 134), (3, 208), (4, 5), (5, 5), (6, 209), (7, 210), (8, 189), (9, 211), (10, 212)]), 11, 48, some (.agg [(.int .u64 0), (.int .u64 0), (.int .u32 0), (.int .u8 0), (.int .u8 0), (.int .u8 0), (.int .u8 0), (.con .nilFunc), (.con (.pointer none)), (.int .i32 0), (.int .i32 0)])⟩ := by kernel_rfl
@[push_cast] theorem t214 : ti Tryz.prog 214 = ⟨(.struct [(0, 12), (1, 12), (2, 134), (3, 208), (4, 5), (5, 5), (6, 209), (7, 210), (8, 189), (9, 211), (10, 212)]), 11, 48, some (.agg [(.int .u64 0), (.int .u64 0), (.int .u32 0), (.int .u8 0), (.int .u8 0), (.int .u8 0), (.int .u8 0), (.con .nilFunc), (.con (.pointer none)), (.int .i32 0), (.int .i32 0)])⟩ := by kernel_rfl
theorem n2 : Tryz.prog.funcs[2]? = some Tryz.f2 := by kernel_rfl
theorem e2 : entB Tryz.prog 2 = true := by kernel_rfl
theorem o2 : bodyOk (anL []) Tryz.f2 = true := by kernel_rfl
theorem n3 : Tryz.prog.funcs[3]? = some Tryz.f3 := by kernel_rfl
theorem e3 : entB Tryz.prog 3 = true := by kernel_rfl
theorem o3 : bodyOk (anL [(33, [0, 1, 0, 7, 15, 31, 0, 0, 192, 448, 1023])]) Tryz.f3 = true := by kernel_rfl
theorem w3 {ct : Ct} (ow : Nat → Bool) (ad : List Adj) {code : Code} (hb : Tryz.f3.body = some code) (hc : CtOk pg ct) {args : List V} {r : V} (ha : Nat.ble args.length 160 = true) (hr : r.noId = true) (h : exec ⟨pg, ct, ow, 160, anL [(33, [0, 1, 0, 7, 15, 31, 0, 0, 192, 448, 1023])], true, none⟩ code ⟨argE args, hOf []⟩ (PostF pg.prog ad [.tmp 8] r [])) : PCall pg 3 args r := pcall_inF ad hc fol 3 n3 hb rfl e3 rfl (bodyOk_at o3 hb rfl) ha hr h
theorem n4 : Tryz.prog.funcs[4]? = some Tryz.f4 := by kernel_rfl
theorem e4 : entB Tryz.prog 4 = true := by kernel_rfl
theorem o4 : bodyOk (anL []) Tryz.f4 = true := by kernel_rfl
theorem w4 {ct : Ct} (ow : Nat → Bool) (ad : List Adj) {code : Code} (hb : Tryz.f4.body = some code) (hc : CtOk pg ct) {args : List V} {r : V} (ha : Nat.ble args.length 60 = true) (hr : r.noId = true) (h : exec ⟨pg, ct, ow, 60, anL [], true, none⟩ code ⟨argE args, hOf []⟩ (PostF pg.prog ad [.tmp 4, .tmp 5] r [])) : PCall pg 4 args r := pcall_inF ad hc fol 4 n4 hb rfl e4 rfl (bodyOk_at o4 hb rfl) ha hr h
theorem n5 : Tryz.prog.funcs[5]? = some Tryz.f5 := by kernel_rfl
theorem e5 : entB Tryz.prog 5 = true := by kernel_rfl
theorem o5 : bodyOk (anL []) Tryz.f5 = true := by kernel_rfl
theorem w5 {ct : Ct} (ow : Nat → Bool) (ad : List Adj) {code : Code} (hb : Tryz.f5.body = some code) (hc : CtOk pg ct) {args : List V} {r : V} (ha : Nat.ble args.length 14 = true) (hr : r.noId = true) (h : exec ⟨pg, ct, ow, 14, anL [], true, none⟩ code ⟨argE args, hOf []⟩ (PostF pg.prog ad [.tmp 0] r [])) : PCall pg 5 args r := pcall_inF ad hc fol 5 n5 hb rfl e5 rfl (bodyOk_at o5 hb rfl) ha hr h
theorem n6 : Tryz.prog.funcs[6]? = some Tryz.f6 := by kernel_rfl
theorem e6 : entB Tryz.prog 6 = true := by kernel_rfl
theorem o6 : bodyOk (anL [(9, [0, 0, 2, 6, 14, 1, 63, 127])]) Tryz.f6 = true := by kernel_rfl
theorem w6 {ct : Ct} (ow : Nat → Bool) (ad : List Adj) {code : Code} (hb : Tryz.f6.body = some code) (hc : CtOk pg ct) {args : List V} {r : V} (ha : Nat.ble args.length 49 = true) (hr : r.noId = true) (h : exec ⟨pg, ct, ow, 49, anL [(9, [0, 0, 2, 6, 14, 1, 63, 127])], true, none⟩ code ⟨argE args, hOf []⟩ (PostF pg.prog ad [.cell 2 39, .tmp 3, .tmp 4] r [])) : PCall pg 6 args r := pcall_inF ad hc fol 6 n6 hb rfl e6 rfl (bodyOk_at o6 hb rfl) ha hr h
theorem n7 : Tryz.prog.funcs[7]? = some Tryz.f7 := by kernel_rfl
theorem e7 : entB Tryz.prog 7 = true := by kernel_rfl
theorem o7 : bodyOk (anL []) Tryz.f7 = true := by kernel_rfl
theorem w7 {ct : Ct} (ow : Nat → Bool) (ad : List Adj) {code : Code} (hb : Tryz.f7.body = some code) (hc : CtOk pg ct) {args : List V} {r : V} (ha : Nat.ble args.length 31 = true) (hr : r.noId = true) (h : exec ⟨pg, ct, ow, 31, anL [], true, none⟩ code ⟨argE args, hOf []⟩ (PostF pg.prog ad [.tmp 4, .tmp 5] r [])) : PCall pg 7 args r := pcall_inF ad hc fol 7 n7 hb rfl e7 rfl (bodyOk_at o7 hb rfl) ha hr h
theorem n8 : Tryz.prog.funcs[8]? = some Tryz.f8 := by kernel_rfl
theorem e8 : entB Tryz.prog 8 = true := by kernel_rfl
theorem o8 : bodyOk (anL []) Tryz.f8 = true := by kernel_rfl
theorem w8 {ct : Ct} (ow : Nat → Bool) (ad : List Adj) {code : Code} (hb : Tryz.f8.body = some code) (hc : CtOk pg ct) {args : List V} {r : V} (ha : Nat.ble args.length 8 = true) (hr : r.noId = true) (h : exec ⟨pg, ct, ow, 8, anL [], true, none⟩ code ⟨argE args, hOf []⟩ (PostF pg.prog ad [.cell 2 39, .tmp 3] r [])) : PCall pg 8 args r := pcall_inF ad hc fol 8 n8 hb rfl e8 rfl (bodyOk_at o8 hb rfl) ha hr h
theorem n9 : Tryz.prog.funcs[9]? = some Tryz.f9 := by kernel_rfl
theorem e9 : entB Tryz.prog 9 = true := by kernel_rfl
theorem o9 : bodyOk (anL [(7, [0, 0, 0, 4, 15, 31, 63])]) Tryz.f9 = true := by kernel_rfl
theorem w9 {ct : Ct} (ow : Nat → Bool) (ad : List Adj) {code : Code} (hb : Tryz.f9.body = some code) (hc : CtOk pg ct) {args : List V} {r : V} (ha : Nat.ble args.length 26 = true) (hr : r.noId = true) (h : exec ⟨pg, ct, ow, 26, anL [(7, [0, 0, 0, 4, 15, 31, 63])], true, none⟩ code ⟨argE args, hOf []⟩ (PostF pg.prog ad [.tmp 6, .tmp 7] r [])) : PCall pg 9 args r := pcall_inF ad hc fol 9 n9 hb rfl e9 rfl (bodyOk_at o9 hb rfl) ha hr h
theorem n10 : Tryz.prog.funcs[10]? = some Tryz.f10 := by kernel_rfl
theorem e10 : entB Tryz.prog 10 = true := by kernel_rfl
theorem o10 : bodyOk (anL [(10, [0, 1, 0, 0, 8, 0, 0, 64, 0, 448, 960, 1984, 0, 4096, 16320, 0, 32768, 0, 229376, 491520, 1015808, 0, 2097152, 8355840, 2097095, 18874311, 52428743, 134217727, 268435455, 536870911])]) Tryz.f10 = true := by kernel_rfl
theorem w10 {ct : Ct} (ow : Nat → Bool) (ad : List Adj) {code : Code} (hb : Tryz.f10.body = some code) (hc : CtOk pg ct) {args : List V} {r : V} (ha : Nat.ble args.length 75 = true) (hr : r.noId = true) (h : exec ⟨pg, ct, ow, 75, anL [(10, [0, 1, 0, 0, 8, 0, 0, 64, 0, 448, 960, 1984, 0, 4096, 16320, 0, 32768, 0, 229376, 491520, 1015808, 0, 2097152, 8355840, 2097095, 18874311, 52428743, 134217727, 268435455, 536870911])], true, none⟩ code ⟨argE args, hOf []⟩ (PostF pg.prog ad [.cell 4 37, .tmp 5] r [])) : PCall pg 10 args r := pcall_inF ad hc fol 10 n10 hb rfl e10 rfl (bodyOk_at o10 hb rfl) ha hr h
theorem n11 : Tryz.prog.funcs[11]? = some Tryz.f11 := by kernel_rfl
theorem e11 : entB Tryz.prog 11 = true := by kernel_rfl
theorem o11 : bodyOk (anL []) Tryz.f11 = true := by kernel_rfl
theorem w11 {ct : Ct} (ow : Nat → Bool) (ad : List Adj) {code : Code} (hb : Tryz.f11.body = some code) (hc : CtOk pg ct) {args : List V} {r : V} (ha : Nat.ble args.length 9 = true) (hr : r.noId = true) (h : exec ⟨pg, ct, ow, 9, anL [], true, none⟩ code ⟨argE args, hOf []⟩ (PostF pg.prog ad [.tmp 4] r [])) : PCall pg 11 args r := pcall_inF ad hc fol 11 n11 hb rfl e11 rfl (bodyOk_at o11 hb rfl) ha hr h
theorem n13 : Tryz.prog.funcs[13]? = some Tryz.f13 := by kernel_rfl
theorem e13 : entB Tryz.prog 13 = true := by kernel_rfl
theorem o13 : bodyOk (anL []) Tryz.f13 = true := by kernel_rfl
theorem w13 {ct : Ct} (ow : Nat → Bool) (ad : List Adj) {code : Code} (hb : Tryz.f13.body = some code) (hc : CtOk pg ct) {args : List V} {r : V} (ha : Nat.ble args.length 22 = true) (hr : r.noId = true) (h : exec ⟨pg, ct, ow, 22, anL [], true, none⟩ code ⟨argE args, hOf []⟩ (PostF pg.prog ad [.tmp 4, .tmp 5, .tmp 6] r [])) : PCall pg 13 args r := pcall_inF ad hc fol 13 n13 hb rfl e13 rfl (bodyOk_at o13 hb rfl) ha hr h
theorem n14 : Tryz.prog.funcs[14]? = some Tryz.f14 := by kernel_rfl
theorem e14 : entB Tryz.prog 14 = true := by kernel_rfl
theorem o14 : bodyOk (anL []) Tryz.f14 = true := by kernel_rfl
theorem w14 {ct : Ct} (ow : Nat → Bool) (ad : List Adj) {code : Code} (hb : Tryz.f14.body = some code) (hc : CtOk pg ct) {args : List V} {r : V} (ha : Nat.ble args.length 54 = true) (hr : r.noId = true) (h : exec ⟨pg, ct, ow, 54, anL [], true, none⟩ code ⟨argE args, hOf []⟩ (PostF pg.prog ad [.tmp 2] r [])) : PCall pg 14 args r := pcall_inF ad hc fol 14 n14 hb rfl e14 rfl (bodyOk_at o14 hb rfl) ha hr h
theorem n15 : Tryz.prog.funcs[15]? = some Tryz.f15 := by kernel_rfl
theorem e15 : entB Tryz.prog 15 = true := by kernel_rfl
theorem o15 : bodyOk (anL []) Tryz.f15 = true := by kernel_rfl
theorem fw15 {ct : Ct} (ow : Nat → Bool) (ad : List Adj) {code : Code} (hb : Tryz.f15.body = some code) (hc : CtOk pg ct) {args : List V} {hl hl' : HL} {r : V} (ha : Nat.ble args.length 9 = true) (hlo : ∀ p ∈ hl, 9000 ≤ p.1) (hin : hlIn (idsIn hl) hl') (hr : V.menIn (idsIn hl) r = true) (h : exec ⟨pg, ct, ow, 9, anL [], true, none⟩ code ⟨argE args, hOf hl⟩ (PostF pg.prog ad [] r hl')) : FCall pg 15 args hl r hl' := fcall_inF ad hc fol 15 n15 hb rfl e15 rfl (bodyOk_at o15 hb rfl) ha hlo hin hr h
theorem n16 : Tryz.prog.funcs[16]? = some Tryz.f16 := by kernel_rfl
theorem e16 : entB Tryz.prog 16 = true := by kernel_rfl
theorem o16 : bodyOk (anL []) Tryz.f16 = true := by kernel_rfl
theorem w16 {ct : Ct} (ow : Nat → Bool) (ad : List Adj) {code : Code} (hb : Tryz.f16.body = some code) (hc : CtOk pg ct) {args : List V} {r : V} (ha : Nat.ble args.length 10 = true) (hr : r.noId = true) (h : exec ⟨pg, ct, ow, 10, anL [], true, none⟩ code ⟨argE args, hOf []⟩ (PostF pg.prog ad [.tmp 4] r [])) : PCall pg 16 args r := pcall_inF ad hc fol 16 n16 hb rfl e16 rfl (bodyOk_at o16 hb rfl) ha hr h
theorem n17 : Tryz.prog.funcs[17]? = some Tryz.f17 := by kernel_rfl
theorem e17 : entB Tryz.prog 17 = true := by kernel_rfl
theorem o17 : bodyOk (anL []) Tryz.f17 = true := by kernel_rfl
theorem w17 {ct : Ct} (ow : Nat → Bool) (ad : List Adj) {code : Code} (hb : Tryz.f17.body = some code) (hc : CtOk pg ct) {args : List V} {r : V} (ha : Nat.ble args.length 20 = true) (hr : r.noId = true) (h : exec ⟨pg, ct, ow, 20, anL [], true, none⟩ code ⟨argE args, hOf []⟩ (PostF pg.prog ad [.tmp 4] r [])) : PCall pg 17 args r := pcall_inF ad hc fol 17 n17 hb rfl e17 rfl (bodyOk_at o17 hb rfl) ha hr h
theorem n18 : Tryz.prog.funcs[18]? = some Tryz.f18 := by kernel_rfl
theorem e18 : entB Tryz.prog 18 = true := by kernel_rfl
theorem o18 : bodyOk (anL [(5, [0, 0, 2, 7, 15, 31, 31, 95, 255, 511, 1023, 2047, 2047, 2047, 10239, 32767, 65535, 2047, 2047, 2047, 526335, 1968127, 4194303, 8388607])]) Tryz.f18 = true := by kernel_rfl
theorem w18 {ct : Ct} (ow : Nat → Bool) (ad : List Adj) {code : Code} (hb : Tryz.f18.body = some code) (hc : CtOk pg ct) {args : List V} {r : V} (ha : Nat.ble args.length 54 = true) (hr : r.noId = true) (h : exec ⟨pg, ct, ow, 54, anL [(5, [0, 0, 2, 7, 15, 31, 31, 95, 255, 511, 1023, 2047, 2047, 2047, 10239, 32767, 65535, 2047, 2047, 2047, 526335, 1968127, 4194303, 8388607])], true, none⟩ code ⟨argE args, hOf []⟩ (PostF pg.prog ad [.tmp 2, .tmp 3, .tmp 4] r [])) : PCall pg 18 args r := pcall_inF ad hc fol 18 n18 hb rfl e18 rfl (bodyOk_at o18 hb rfl) ha hr h
theorem n19 : Tryz.prog.funcs[19]? = some Tryz.f19 := by kernel_rfl
theorem e19 : entB Tryz.prog 19 = true := by kernel_rfl
theorem o19 : bodyOk (anL [(1, [0, 1, 3, 7, 0, 16, 48, 112, 255, 511, 1023]), (2, [0, 0, 2, 6, 14, 0, 32, 96, 224, 0, 512, 1536, 3584, 0, 15872, 32766, 65535, 131071, 262143, 524287]), (6, [0, 1, 3, 7, 0, 16, 48, 112, 255, 511]), (11, [0, 0, 2, 6, 14, 0, 32, 96, 224, 0, 1022, 2047, 4095, 8191, 16383]), (15, [0, 1, 3, 7, 0, 16, 48, 112, 240, 511, 1023, 2047, 4095, 8191, 16383, 2047, 34815, 100351, 231423, 524287, 1048575, 2097151, 4194303, 8388607])]) Tryz.f19 = true := by kernel_rfl
theorem fw19 {ct : Ct} (ow : Nat → Bool) (ad : List Adj) {code : Code} (hb : Tryz.f19.body = some code) (hc : CtOk pg ct) {args : List V} {hl hl' : HL} {r : V} (ha : Nat.ble args.length 136 = true) (hlo : ∀ p ∈ hl, 9000 ≤ p.1) (hin : hlIn (idsIn hl) hl') (hr : V.menIn (idsIn hl) r = true) (h : exec ⟨pg, ct, ow, 136, anL [(1, [0, 1, 3, 7, 0, 16, 48, 112, 255, 511, 1023]), (2, [0, 0, 2, 6, 14, 0, 32, 96, 224, 0, 512, 1536, 3584, 0, 15872, 32766, 65535, 131071, 262143, 524287]), (6, [0, 1, 3, 7, 0, 16, 48, 112, 255, 511]), (11, [0, 0, 2, 6, 14, 0, 32, 96, 224, 0, 1022, 2047, 4095, 8191, 16383]), (15, [0, 1, 3, 7, 0, 16, 48, 112, 240, 511, 1023, 2047, 4095, 8191, 16383, 2047, 34815, 100351, 231423, 524287, 1048575, 2097151, 4194303, 8388607])], true, none⟩ code ⟨argE args, hOf hl⟩ (PostF pg.prog ad [.tmp 2] r hl')) : FCall pg 19 args hl r hl' := fcall_inF ad hc fol 19 n19 hb rfl e19 rfl (bodyOk_at o19 hb rfl) ha hlo hin hr h
theorem n20 : Tryz.prog.funcs[20]? = some Tryz.f20 := by kernel_rfl
theorem e20 : entB Tryz.prog 20 = true := by kernel_rfl
theorem o20 : bodyOk (anL [(5, [0, 1, 3, 7, 0, 16, 48, 112, 255, 511]), (11, [0, 1, 3, 7, 0, 16, 48, 112, 255, 511])]) Tryz.f20 = true := by kernel_rfl
theorem fw20 {ct : Ct} (ow : Nat → Bool) (ad : List Adj) {code : Code} (hb : Tryz.f20.body = some code) (hc : CtOk pg ct) {args : List V} {hl hl' : HL} {r : V} (ha : Nat.ble args.length 79 = true) (hlo : ∀ p ∈ hl, 9000 ≤ p.1) (hin : hlIn (idsIn hl) hl') (hr : V.menIn (idsIn hl) r = true) (h : exec ⟨pg, ct, ow, 79, anL [(5, [0, 1, 3, 7, 0, 16, 48, 112, 255, 511]), (11, [0, 1, 3, 7, 0, 16, 48, 112, 255, 511])], true, none⟩ code ⟨argE args, hOf hl⟩ (PostF pg.prog ad [.tmp 2] r hl')) : FCall pg 20 args hl r hl' := fcall_inF ad hc fol 20 n20 hb rfl e20 rfl (bodyOk_at o20 hb rfl) ha hlo hin hr h
theorem n21 : Tryz.prog.funcs[21]? = some Tryz.f21 := by kernel_rfl
theorem e21 : entB Tryz.prog 21 = true := by kernel_rfl
theorem o21 : bodyOk (anL []) Tryz.f21 = true := by kernel_rfl
theorem w21 {ct : Ct} (ow : Nat → Bool) (ad : List Adj) {code : Code} (hb : Tryz.f21.body = some code) (hc : CtOk pg ct) {args : List V} {r : V} (ha : Nat.ble args.length 73 = true) (hr : r.noId = true) (h : exec ⟨pg, ct, ow, 73, anL [], true, none⟩ code ⟨argE args, hOf []⟩ (PostF pg.prog ad [.tmp 2] r [])) : PCall pg 21 args r := pcall_inF ad hc fol 21 n21 hb rfl e21 rfl (bodyOk_at o21 hb rfl) ha hr h
theorem n22 : Tryz.prog.funcs[22]? = some Tryz.f22 := by kernel_rfl
theorem e22 : entB Tryz.prog 22 = true := by kernel_rfl
theorem o22 : bodyOk (anL [(13, [0, 1, 3, 7, 7, 23, 63, 127, 255, 7, 519, 2047, 7, 7, 8199, 28679, 61447, 126983, 7, 262151, 1048575, 2097151, 4194303, 8388607, 16777215, 33554431])]) Tryz.f22 = true := by kernel_rfl
theorem w22 {ct : Ct} (ow : Nat → Bool) (ad : List Adj) {code : Code} (hb : Tryz.f22.body = some code) (hc : CtOk pg ct) {args : List V} {r : V} (ha : Nat.ble args.length 76 = true) (hr : r.noId = true) (h : exec ⟨pg, ct, ow, 76, anL [(13, [0, 1, 3, 7, 7, 23, 63, 127, 255, 7, 519, 2047, 7, 7, 8199, 28679, 61447, 126983, 7, 262151, 1048575, 2097151, 4194303, 8388607, 16777215, 33554431])], true, none⟩ code ⟨argE args, hOf []⟩ (PostF pg.prog ad [.tmp 2] r [])) : PCall pg 22 args r := pcall_inF ad hc fol 22 n22 hb rfl e22 rfl (bodyOk_at o22 hb rfl) ha hr h
theorem n23 : Tryz.prog.funcs[23]? = some Tryz.f23 := by kernel_rfl
theorem e23 : entB Tryz.prog 23 = true := by kernel_rfl
theorem o23 : bodyOk (anL []) Tryz.f23 = true := by kernel_rfl
theorem w23 {ct : Ct} (ow : Nat → Bool) (ad : List Adj) {code : Code} (hb : Tryz.f23.body = some code) (hc : CtOk pg ct) {args : List V} {r : V} (ha : Nat.ble args.length 22 = true) (hr : r.noId = true) (h : exec ⟨pg, ct, ow, 22, anL [], true, none⟩ code ⟨argE args, hOf []⟩ (PostF pg.prog ad [.cell 2 39, .tmp 3] r [])) : PCall pg 23 args r := pcall_inF ad hc fol 23 n23 hb rfl e23 rfl (bodyOk_at o23 hb rfl) ha hr h
theorem n24 : Tryz.prog.funcs[24]? = some Tryz.f24 := by kernel_rfl
theorem e24 : entB Tryz.prog 24 = true := by kernel_rfl
theorem o24 : bodyOk (anL []) Tryz.f24 = true := by kernel_rfl
theorem w24 {ct : Ct} (ow : Nat → Bool) (ad : List Adj) {code : Code} (hb : Tryz.f24.body = some code) (hc : CtOk pg ct) {args : List V} {r : V} (ha : Nat.ble args.length 61 = true) (hr : r.noId = true) (h : exec ⟨pg, ct, ow, 61, anL [], true, none⟩ code ⟨argE args, hOf []⟩ (PostF pg.prog ad [.tmp 4] r [])) : PCall pg 24 args r := pcall_inF ad hc fol 24 n24 hb rfl e24 rfl (bodyOk_at o24 hb rfl) ha hr h
theorem n25 : Tryz.prog.funcs[25]? = some Tryz.f25 := by kernel_rfl
theorem e25 : entB Tryz.prog 25 = true := by kernel_rfl
theorem o25 : bodyOk (anL []) Tryz.f25 = true := by kernel_rfl
theorem w25 {ct : Ct} (ow : Nat → Bool) (ad : List Adj) {code : Code} (hb : Tryz.f25.body = some code) (hc : CtOk pg ct) {args : List V} {r : V} (ha : Nat.ble args.length 68 = true) (hr : r.noId = true) (h : exec ⟨pg, ct, ow, 68, anL [], true, none⟩ code ⟨argE args, hOf []⟩ (PostF pg.prog ad [.cell 2 39, .tmp 3] r [])) : PCall pg 25 args r := pcall_inF ad hc fol 25 n25 hb rfl e25 rfl (bodyOk_at o25 hb rfl) ha hr h
theorem n26 : Tryz.prog.funcs[26]? = some Tryz.f26 := by kernel_rfl
theorem e26 : entB Tryz.prog 26 = true := by kernel_rfl
theorem o26 : bodyOk (anL []) Tryz.f26 = true := by kernel_rfl
theorem w26 {ct : Ct} (ow : Nat → Bool) (ad : List Adj) {code : Code} (hb : Tryz.f26.body = some code) (hc : CtOk pg ct) {args : List V} {r : V} (ha : Nat.ble args.length 18 = true) (hr : r.noId = true) (h : exec ⟨pg, ct, ow, 18, anL [], true, none⟩ code ⟨argE args, hOf []⟩ (PostF pg.prog ad [.tmp 4] r [])) : PCall pg 26 args r := pcall_inF ad hc fol 26 n26 hb rfl e26 rfl (bodyOk_at o26 hb rfl) ha hr h
theorem n27 : Tryz.prog.funcs[27]? = some Tryz.f27 := by kernel_rfl
theorem e27 : entB Tryz.prog 27 = true := by kernel_rfl
theorem o27 : bodyOk (anL []) Tryz.f27 = true := by kernel_rfl
theorem w27 {ct : Ct} (ow : Nat → Bool) (ad : List Adj) {code : Code} (hb : Tryz.f27.body = some code) (hc : CtOk pg ct) {args : List V} {r : V} (ha : Nat.ble args.length 32 = true) (hr : r.noId = true) (h : exec ⟨pg, ct, ow, 32, anL [], true, none⟩ code ⟨argE args, hOf []⟩ (PostF pg.prog ad [.tmp 6] r [])) : PCall pg 27 args r := pcall_inF ad hc fol 27 n27 hb rfl e27 rfl (bodyOk_at o27 hb rfl) ha hr h
theorem n28 : Tryz.prog.funcs[28]? = some Tryz.f28 := by kernel_rfl
theorem e28 : entB Tryz.prog 28 = true := by kernel_rfl
theorem o28 : bodyOk (anL [(3, [0, 1, 3, 0, 8, 31, 63])]) Tryz.f28 = true := by kernel_rfl
theorem w28 {ct : Ct} (ow : Nat → Bool) (ad : List Adj) {code : Code} (hb : Tryz.f28.body = some code) (hc : CtOk pg ct) {args : List V} {r : V} (ha : Nat.ble args.length 28 = true) (hr : r.noId = true) (h : exec ⟨pg, ct, ow, 28, anL [(3, [0, 1, 3, 0, 8, 31, 63])], true, none⟩ code ⟨argE args, hOf []⟩ (PostF pg.prog ad [.tmp 2] r [])) : PCall pg 28 args r := pcall_inF ad hc fol 28 n28 hb rfl e28 rfl (bodyOk_at o28 hb rfl) ha hr h
theorem n29 : Tryz.prog.funcs[29]? = some Tryz.f29 := by kernel_rfl
theorem e29 : entB Tryz.prog 29 = true := by kernel_rfl
theorem o29 : bodyOk (anL [(11, [0, 1, 3, 7, 15, 7, 39, 7, 135, 487, 999, 2023, 4095, 8191]), (21, [0, 1, 3, 7, 15, 7, 39, 7, 135, 487, 999, 2023, 4095, 8191, 16383])]) Tryz.f29 = true := by kernel_rfl
theorem w29 {ct : Ct} (ow : Nat → Bool) (ad : List Adj) {code : Code} (hb : Tryz.f29.body = some code) (hc : CtOk pg ct) {args : List V} {r : V} (ha : Nat.ble args.length 95 = true) (hr : r.noId = true) (h : exec ⟨pg, ct, ow, 95, anL [(11, [0, 1, 3, 7, 15, 7, 39, 7, 135, 487, 999, 2023, 4095, 8191]), (21, [0, 1, 3, 7, 15, 7, 39, 7, 135, 487, 999, 2023, 4095, 8191, 16383])], true, none⟩ code ⟨argE args, hOf []⟩ (PostF pg.prog ad [.tmp 2] r [])) : PCall pg 29 args r := pcall_inF ad hc fol 29 n29 hb rfl e29 rfl (bodyOk_at o29 hb rfl) ha hr h
theorem n30 : Tryz.prog.funcs[30]? = some Tryz.f30 := by kernel_rfl
theorem e30 : entB Tryz.prog 30 = true := by kernel_rfl
theorem o30 : bodyOk (anL []) Tryz.f30 = true := by kernel_rfl
theorem w30 {ct : Ct} (ow : Nat → Bool) (ad : List Adj) {code : Code} (hb : Tryz.f30.body = some code) (hc : CtOk pg ct) {args : List V} {r : V} (ha : Nat.ble args.length 24 = true) (hr : r.noId = true) (h : exec ⟨pg, ct, ow, 24, anL [], true, none⟩ code ⟨argE args, hOf []⟩ (PostF pg.prog ad [.tmp 2] r [])) : PCall pg 30 args r := pcall_inF ad hc fol 30 n30 hb rfl e30 rfl (bodyOk_at o30 hb rfl) ha hr h
theorem n31 : Tryz.prog.funcs[31]? = some Tryz.f31 := by kernel_rfl
theorem e31 : entB Tryz.prog 31 = true := by kernel_rfl
theorem o31 : bodyOk (anL [(1, [0, 1, 3, 0, 8, 31, 31, 127, 255, 511]), (5, [0, 1, 0, 0, 8, 0, 56, 120, 248, 504, 1023, 2047, 4095])]) Tryz.f31 = true := by kernel_rfl
theorem nw31 {ct : Ct} (ow : Nat → Bool) (ad : List Adj) {code : Code} (hb : Tryz.f31.body = some code) (hc : CtOk pg ct) {args : List V} {r : V} {nb : Blk} (ha : Nat.ble args.length 32 = true) (hr : r.newOkP = true) (hnb : noIdB nb) (h : exec ⟨pg, ct, ow, 32, anL [(1, [0, 1, 3, 0, 8, 31, 31, 127, 255, 511]), (5, [0, 1, 0, 0, 8, 0, 56, 120, 248, 504, 1023, 2047, 4095])], false, none⟩ code ⟨argE args, hOf []⟩ (PostF pg.prog ad [.cell 2 37] r [(8999, nb)])) : NCall pg 31 args r nb := ncall_inF ad hc fol 31 n31 hb rfl e31 rfl (bodyOk_at o31 hb rfl) ha hr hnb h
theorem n32 : Tryz.prog.funcs[32]? = some Tryz.f32 := by kernel_rfl
theorem e32 : entB Tryz.prog 32 = true := by kernel_rfl
theorem o32 : bodyOk (anL []) Tryz.f32 = true := by kernel_rfl
theorem w32 {ct : Ct} (ow : Nat → Bool) (ad : List Adj) {code : Code} (hb : Tryz.f32.body = some code) (hc : CtOk pg ct) {args : List V} {r : V} (ha : Nat.ble args.length 49 = true) (hr : r.noId = true) (h : exec ⟨pg, ct, ow, 49, anL [], true, none⟩ code ⟨argE args, hOf []⟩ (PostF pg.prog ad [.tmp 6, .tmp 7] r [])) : PCall pg 32 args r := pcall_inF ad hc fol 32 n32 hb rfl e32 rfl (bodyOk_at o32 hb rfl) ha hr h
theorem n33 : Tryz.prog.funcs[33]? = some Tryz.f33 := by kernel_rfl
theorem e33 : entB Tryz.prog 33 = true := by kernel_rfl
theorem o33 : bodyOk (anL []) Tryz.f33 = true := by kernel_rfl
theorem w33 {ct : Ct} (ow : Nat → Bool) (ad : List Adj) {code : Code} (hb : Tryz.f33.body = some code) (hc : CtOk pg ct) {args : List V} {r : V} (ha : Nat.ble args.length 9 = true) (hr : r.noId = true) (h : exec ⟨pg, ct, ow, 9, anL [], true, none⟩ code ⟨argE args, hOf []⟩ (PostF pg.prog ad [.tmp 4] r [])) : PCall pg 33 args r := pcall_inF ad hc fol 33 n33 hb rfl e33 rfl (bodyOk_at o33 hb rfl) ha hr h
theorem n35 : Tryz.prog.funcs[35]? = some Tryz.f35 := by kernel_rfl
theorem e35 : entB Tryz.prog 35 = true := by kernel_rfl
theorem o35 : bodyOk (anL [(11, [0, 0, 0, 6, 15, 0, 0, 96, 255]), (15, [0, 0, 0, 6, 15, 0, 0, 96, 255])]) Tryz.f35 = true := by kernel_rfl
theorem fw35 {ct : Ct} (ow : Nat → Bool) (ad : List Adj) {code : Code} (hb : Tryz.f35.body = some code) (hc : CtOk pg ct) {args : List V} {hl hl' : HL} {r : V} (ha : Nat.ble args.length 95 = true) (hlo : ∀ p ∈ hl, 9000 ≤ p.1) (hin : hlIn (idsIn hl) hl') (hr : V.menIn (idsIn hl) r = true) (h : exec ⟨pg, ct, ow, 95, anL [(11, [0, 0, 0, 6, 15, 0, 0, 96, 255]), (15, [0, 0, 0, 6, 15, 0, 0, 96, 255])], true, none⟩ code ⟨argE args, hOf hl⟩ (PostF pg.prog ad [.tmp 6] r hl')) : FCall pg 35 args hl r hl' := fcall_inF ad hc fol 35 n35 hb rfl e35 rfl (bodyOk_at o35 hb rfl) ha hlo hin hr h
theorem n36 : Tryz.prog.funcs[36]? = some Tryz.f36 := by kernel_rfl
theorem e36 : entB Tryz.prog 36 = true := by kernel_rfl
theorem o36 : bodyOk (anL []) Tryz.f36 = true := by kernel_rfl
theorem w36 {ct : Ct} (ow : Nat → Bool) (ad : List Adj) {code : Code} (hb : Tryz.f36.body = some code) (hc : CtOk pg ct) {args : List V} {r : V} (ha : Nat.ble args.length 19 = true) (hr : r.noId = true) (h : exec ⟨pg, ct, ow, 19, anL [], true, none⟩ code ⟨argE args, hOf []⟩ (PostF pg.prog ad [.tmp 4] r [])) : PCall pg 36 args r := pcall_inF ad hc fol 36 n36 hb rfl e36 rfl (bodyOk_at o36 hb rfl) ha hr h
theorem n37 : Tryz.prog.funcs[37]? = some Tryz.f37 := by kernel_rfl
theorem e37 : entB Tryz.prog 37 = true := by kernel_rfl
theorem o37 : bodyOk (anL [(17, [0, 1, 3, 7, 7, 23, 63, 127, 7, 7, 775, 1799, 4095, 8191, 16383])]) Tryz.f37 = true := by kernel_rfl
theorem n39 : Tryz.prog.funcs[39]? = some Tryz.f39 := by kernel_rfl
theorem e39 : entB Tryz.prog 39 = true := by kernel_rfl
theorem o39 : bodyOk (anL []) Tryz.f39 = true := by kernel_rfl
theorem w39 {ct : Ct} (ow : Nat → Bool) (ad : List Adj) {code : Code} (hb : Tryz.f39.body = some code) (hc : CtOk pg ct) {args : List V} {r : V} (ha : Nat.ble args.length 14 = true) (hr : r.noId = true) (h : exec ⟨pg, ct, ow, 14, anL [], true, none⟩ code ⟨argE args, hOf []⟩ (PostF pg.prog ad [.tmp 4] r [])) : PCall pg 39 args r := pcall_inF ad hc fol 39 n39 hb rfl e39 rfl (bodyOk_at o39 hb rfl) ha hr h
theorem n40 : Tryz.prog.funcs[40]? = some Tryz.f40 := by kernel_rfl
theorem e40 : entB Tryz.prog 40 = true := by kernel_rfl
theorem o40 : bodyOk (anL [(5, [0, 0, 2, 6, 15, 31, 63, 63, 127, 511]), (7, [0, 1, 3, 7, 15, 7, 39, 7, 231, 487, 999, 2047, 7, 4103, 7, 16391, 7, 114695, 245767, 507911, 1048575, 2097151, 4194303, 8388607, 16777215])]) Tryz.f40 = true := by kernel_rfl
theorem w40 {ct : Ct} (ow : Nat → Bool) (ad : List Adj) {code : Code} (hb : Tryz.f40.body = some code) (hc : CtOk pg ct) {args : List V} {r : V} (ha : Nat.ble args.length 67 = true) (hr : r.noId = true) (h : exec ⟨pg, ct, ow, 67, anL [(5, [0, 0, 2, 6, 15, 31, 63, 63, 127, 511]), (7, [0, 1, 3, 7, 15, 7, 39, 7, 231, 487, 999, 2047, 7, 4103, 7, 16391, 7, 114695, 245767, 507911, 1048575, 2097151, 4194303, 8388607, 16777215])], true, none⟩ code ⟨argE args, hOf []⟩ (PostF pg.prog ad [.tmp 4] r [])) : PCall pg 40 args r := pcall_inF ad hc fol 40 n40 hb rfl e40 rfl (bodyOk_at o40 hb rfl) ha hr h
theorem n41 : Tryz.prog.funcs[41]? = some Tryz.f41 := by kernel_rfl
theorem e41 : entB Tryz.prog 41 = true := by kernel_rfl
theorem o41 : bodyOk (anL []) Tryz.f41 = true := by kernel_rfl
theorem fw41 {ct : Ct} (ow : Nat → Bool) (ad : List Adj) {code : Code} (hb : Tryz.f41.body = some code) (hc : CtOk pg ct) {args : List V} {hl hl' : HL} {r : V} (ha : Nat.ble args.length 63 = true) (hlo : ∀ p ∈ hl, 9000 ≤ p.1) (hin : hlIn (idsIn hl) hl') (hr : V.menIn (idsIn hl) r = true) (h : exec ⟨pg, ct, ow, 63, anL [], true, none⟩ code ⟨argE args, hOf hl⟩ (PostF pg.prog ad [] r hl')) : FCall pg 41 args hl r hl' := fcall_inF ad hc fol 41 n41 hb rfl e41 rfl (bodyOk_at o41 hb rfl) ha hlo hin hr h
theorem n42 : Tryz.prog.funcs[42]? = some Tryz.f42 := by kernel_rfl
theorem e42 : entB Tryz.prog 42 = true := by kernel_rfl
theorem o42 : bodyOk (anL []) Tryz.f42 = true := by kernel_rfl
theorem w42 {ct : Ct} (ow : Nat → Bool) (ad : List Adj) {code : Code} (hb : Tryz.f42.body = some code) (hc : CtOk pg ct) {args : List V} {r : V} (ha : Nat.ble args.length 6 = true) (hr : r.noId = true) (h : exec ⟨pg, ct, ow, 6, anL [], true, none⟩ code ⟨argE args, hOf []⟩ (PostF pg.prog ad [.tmp 2] r [])) : PCall pg 42 args r := pcall_inF ad hc fol 42 n42 hb rfl e42 rfl (bodyOk_at o42 hb rfl) ha hr h
theorem n43 : Tryz.prog.funcs[43]? = some Tryz.f43 := by kernel_rfl
theorem e43 : entB Tryz.prog 43 = true := by kernel_rfl
theorem o43 : bodyOk (anL []) Tryz.f43 = true := by kernel_rfl
theorem w43 {ct : Ct} (ow : Nat → Bool) (ad : List Adj) {code : Code} (hb : Tryz.f43.body = some code) (hc : CtOk pg ct) {args : List V} {r : V} (ha : Nat.ble args.length 30 = true) (hr : r.noId = true) (h : exec ⟨pg, ct, ow, 30, anL [], true, none⟩ code ⟨argE args, hOf []⟩ (PostF pg.prog ad [.tmp 2] r [])) : PCall pg 43 args r := pcall_inF ad hc fol 43 n43 hb rfl e43 rfl (bodyOk_at o43 hb rfl) ha hr h
theorem n44 : Tryz.prog.funcs[44]? = some Tryz.f44 := by kernel_rfl
theorem e44 : entB Tryz.prog 44 = true := by kernel_rfl
theorem o44 : bodyOk (anL []) Tryz.f44 = true := by kernel_rfl
theorem w44 {ct : Ct} (ow : Nat → Bool) (ad : List Adj) {code : Code} (hb : Tryz.f44.body = some code) (hc : CtOk pg ct) {args : List V} {r : V} (ha : Nat.ble args.length 35 = true) (hr : r.noId = true) (h : exec ⟨pg, ct, ow, 35, anL [], true, none⟩ code ⟨argE args, hOf []⟩ (PostF pg.prog ad [.tmp 2] r [])) : PCall pg 44 args r := pcall_inF ad hc fol 44 n44 hb rfl e44 rfl (bodyOk_at o44 hb rfl) ha hr h
theorem n45 : Tryz.prog.funcs[45]? = some Tryz.f45 := by kernel_rfl
theorem e45 : entB Tryz.prog 45 = true := by kernel_rfl
theorem o45 : bodyOk (anL []) Tryz.f45 = true := by kernel_rfl
theorem w45 {ct : Ct} (ow : Nat → Bool) (ad : List Adj) {code : Code} (hb : Tryz.f45.body = some code) (hc : CtOk pg ct) {args : List V} {r : V} (ha : Nat.ble args.length 19 = true) (hr : r.noId = true) (h : exec ⟨pg, ct, ow, 19, anL [], true, none⟩ code ⟨argE args, hOf []⟩ (PostF pg.prog ad [.tmp 2] r [])) : PCall pg 45 args r := pcall_inF ad hc fol 45 n45 hb rfl e45 rfl (bodyOk_at o45 hb rfl) ha hr h
theorem n46 : Tryz.prog.funcs[46]? = some Tryz.f46 := by kernel_rfl
theorem e46 : entB Tryz.prog 46 = true := by kernel_rfl
theorem o46 : bodyOk (anL []) Tryz.f46 = true := by kernel_rfl
theorem w46 {ct : Ct} (ow : Nat → Bool) (ad : List Adj) {code : Code} (hb : Tryz.f46.body = some code) (hc : CtOk pg ct) {args : List V} {r : V} (ha : Nat.ble args.length 8 = true) (hr : r.noId = true) (h : exec ⟨pg, ct, ow, 8, anL [], true, none⟩ code ⟨argE args, hOf []⟩ (PostF pg.prog ad [.tmp 4] r [])) : PCall pg 46 args r := pcall_inF ad hc fol 46 n46 hb rfl e46 rfl (bodyOk_at o46 hb rfl) ha hr h
theorem n47 : Tryz.prog.funcs[47]? = some Tryz.f47 := by kernel_rfl
theorem e47 : entB Tryz.prog 47 = true := by kernel_rfl
theorem o47 : bodyOk (anL []) Tryz.f47 = true := by kernel_rfl
theorem w47 {ct : Ct} (ow : Nat → Bool) (ad : List Adj) {code : Code} (hb : Tryz.f47.body = some code) (hc : CtOk pg ct) {args : List V} {r : V} (ha : Nat.ble args.length 9 = true) (hr : r.noId = true) (h : exec ⟨pg, ct, ow, 9, anL [], true, none⟩ code ⟨argE args, hOf []⟩ (PostF pg.prog ad [.tmp 2] r [])) : PCall pg 47 args r := pcall_inF ad hc fol 47 n47 hb rfl e47 rfl (bodyOk_at o47 hb rfl) ha hr h
theorem n48 : Tryz.prog.funcs[48]? = some Tryz.f48 := by kernel_rfl
theorem e48 : entB Tryz.prog 48 = true := by kernel_rfl
theorem o48 : bodyOk (anL []) Tryz.f48 = true := by kernel_rfl
theorem w48 {ct : Ct} (ow : Nat → Bool) (ad : List Adj) {code : Code} (hb : Tryz.f48.body = some code) (hc : CtOk pg ct) {args : List V} {r : V} (ha : Nat.ble args.length 35 = true) (hr : r.noId = true) (h : exec ⟨pg, ct, ow, 35, anL [], true, none⟩ code ⟨argE args, hOf []⟩ (PostF pg.prog ad [.tmp 2] r [])) : PCall pg 48 args r := pcall_inF ad hc fol 48 n48 hb rfl e48 rfl (bodyOk_at o48 hb rfl) ha hr h
theorem n49 : Tryz.prog.funcs[49]? = some Tryz.f49 := by kernel_rfl
theorem e49 : entB Tryz.prog 49 = true := by kernel_rfl
theorem o49 : bodyOk (anL []) Tryz.f49 = true := by kernel_rfl
theorem w49 {ct : Ct} (ow : Nat → Bool) (ad : List Adj) {code : Code} (hb : Tryz.f49.body = some code) (hc : CtOk pg ct) {args : List V} {r : V} (ha : Nat.ble args.length 8 = true) (hr : r.noId = true) (h : exec ⟨pg, ct, ow, 8, anL [], true, none⟩ code ⟨argE args, hOf []⟩ (PostF pg.prog ad [.tmp 4] r [])) : PCall pg 49 args r := pcall_inF ad hc fol 49 n49 hb rfl e49 rfl (bodyOk_at o49 hb rfl) ha hr h
theorem n50 : Tryz.prog.funcs[50]? = some Tryz.f50 := by kernel_rfl
theorem e50 : entB Tryz.prog 50 = true := by kernel_rfl
theorem o50 : bodyOk (anL [(1, [0, 1, 3, 7, 0, 16, 48, 112, 255, 0, 1023, 2047, 4095, 4095, 8191, 32767]), (2, [0, 1, 3, 7, 0, 16, 48, 112, 0, 256, 768, 1792, 0, 7936, 16383, 32767])]) Tryz.f50 = true := by kernel_rfl
theorem fw50 {ct : Ct} (ow : Nat → Bool) (ad : List Adj) {code : Code} (hb : Tryz.f50.body = some code) (hc : CtOk pg ct) {args : List V} {hl hl' : HL} {r : V} (ha : Nat.ble args.length 48 = true) (hlo : ∀ p ∈ hl, 9000 ≤ p.1) (hin : hlIn (idsIn hl) hl') (hr : V.menIn (idsIn hl) r = true) (h : exec ⟨pg, ct, ow, 48, anL [(1, [0, 1, 3, 7, 0, 16, 48, 112, 255, 0, 1023, 2047, 4095, 4095, 8191, 32767]), (2, [0, 1, 3, 7, 0, 16, 48, 112, 0, 256, 768, 1792, 0, 7936, 16383, 32767])], true, none⟩ code ⟨argE args, hOf hl⟩ (PostF pg.prog ad [.tmp 4, .tmp 5] r hl')) : FCall pg 50 args hl r hl' := fcall_inF ad hc fol 50 n50 hb rfl e50 rfl (bodyOk_at o50 hb rfl) ha hlo hin hr h
theorem n51 : Tryz.prog.funcs[51]? = some Tryz.f51 := by kernel_rfl
theorem e51 : entB Tryz.prog 51 = true := by kernel_rfl
theorem o51 : bodyOk (anL []) Tryz.f51 = true := by kernel_rfl
theorem w51 {ct : Ct} (ow : Nat → Bool) (ad : List Adj) {code : Code} (hb : Tryz.f51.body = some code) (hc : CtOk pg ct) {args : List V} {r : V} (ha : Nat.ble args.length 20 = true) (hr : r.noId = true) (h : exec ⟨pg, ct, ow, 20, anL [], true, none⟩ code ⟨argE args, hOf []⟩ (PostF pg.prog ad [.tmp 4] r [])) : PCall pg 51 args r := pcall_inF ad hc fol 51 n51 hb rfl e51 rfl (bodyOk_at o51 hb rfl) ha hr h
theorem n52 : Tryz.prog.funcs[52]? = some Tryz.f52 := by kernel_rfl
theorem e52 : entB Tryz.prog 52 = true := by kernel_rfl
theorem o52 : bodyOk (anL []) Tryz.f52 = true := by kernel_rfl
theorem w52 {ct : Ct} (ow : Nat → Bool) (ad : List Adj) {code : Code} (hb : Tryz.f52.body = some code) (hc : CtOk pg ct) {args : List V} {r : V} (ha : Nat.ble args.length 22 = true) (hr : r.noId = true) (h : exec ⟨pg, ct, ow, 22, anL [], true, none⟩ code ⟨argE args, hOf []⟩ (PostF pg.prog ad [.tmp 2] r [])) : PCall pg 52 args r := pcall_inF ad hc fol 52 n52 hb rfl e52 rfl (bodyOk_at o52 hb rfl) ha hr h
theorem n53 : Tryz.prog.funcs[53]? = some Tryz.f53 := by kernel_rfl
theorem e53 : entB Tryz.prog 53 = true := by kernel_rfl
theorem o53 : bodyOk (anL []) Tryz.f53 = true := by kernel_rfl
theorem w53 {ct : Ct} (ow : Nat → Bool) (ad : List Adj) {code : Code} (hb : Tryz.f53.body = some code) (hc : CtOk pg ct) {args : List V} {r : V} (ha : Nat.ble args.length 9 = true) (hr : r.noId = true) (h : exec ⟨pg, ct, ow, 9, anL [], true, none⟩ code ⟨argE args, hOf []⟩ (PostF pg.prog ad [.tmp 4] r [])) : PCall pg 53 args r := pcall_inF ad hc fol 53 n53 hb rfl e53 rfl (bodyOk_at o53 hb rfl) ha hr h
theorem n54 : Tryz.prog.funcs[54]? = some Tryz.f54 := by kernel_rfl
theorem e54 : entB Tryz.prog 54 = true := by kernel_rfl
theorem o54 : bodyOk (anL []) Tryz.f54 = true := by kernel_rfl
theorem w54 {ct : Ct} (ow : Nat → Bool) (ad : List Adj) {code : Code} (hb : Tryz.f54.body = some code) (hc : CtOk pg ct) {args : List V} {r : V} (ha : Nat.ble args.length 18 = true) (hr : r.noId = true) (h : exec ⟨pg, ct, ow, 18, anL [], true, none⟩ code ⟨argE args, hOf []⟩ (PostF pg.prog ad [.tmp 2] r [])) : PCall pg 54 args r := pcall_inF ad hc fol 54 n54 hb rfl e54 rfl (bodyOk_at o54 hb rfl) ha hr h
theorem n55 : Tryz.prog.funcs[55]? = some Tryz.f55 := by kernel_rfl
theorem e55 : entB Tryz.prog 55 = true := by kernel_rfl
theorem o55 : bodyOk (anL [(1, [0, 1, 3, 0, 8, 31, 0, 64, 255, 0, 512, 2047, 0, 4096, 16383, 0, 32768, 131071, 0, 524287])]) Tryz.f55 = true := by kernel_rfl
theorem w55 {ct : Ct} (ow : Nat → Bool) (ad : List Adj) {code : Code} (hb : Tryz.f55.body = some code) (hc : CtOk pg ct) {args : List V} {r : V} (ha : Nat.ble args.length 50 = true) (hr : r.noId = true) (h : exec ⟨pg, ct, ow, 50, anL [(1, [0, 1, 3, 0, 8, 31, 0, 64, 255, 0, 512, 2047, 0, 4096, 16383, 0, 32768, 131071, 0, 524287])], true, none⟩ code ⟨argE args, hOf []⟩ (PostF pg.prog ad [.cell 2 39] r [])) : PCall pg 55 args r := pcall_inF ad hc fol 55 n55 hb rfl e55 rfl (bodyOk_at o55 hb rfl) ha hr h
theorem n56 : Tryz.prog.funcs[56]? = some Tryz.f56 := by kernel_rfl
theorem e56 : entB Tryz.prog 56 = true := by kernel_rfl
theorem o56 : bodyOk (anL []) Tryz.f56 = true := by kernel_rfl
theorem w56 {ct : Ct} (ow : Nat → Bool) (ad : List Adj) {code : Code} (hb : Tryz.f56.body = some code) (hc : CtOk pg ct) {args : List V} {r : V} (ha : Nat.ble args.length 11 = true) (hr : r.noId = true) (h : exec ⟨pg, ct, ow, 11, anL [], true, none⟩ code ⟨argE args, hOf []⟩ (PostF pg.prog ad [.tmp 4, .tmp 5] r [])) : PCall pg 56 args r := pcall_inF ad hc fol 56 n56 hb rfl e56 rfl (bodyOk_at o56 hb rfl) ha hr h
theorem n57 : Tryz.prog.funcs[57]? = some Tryz.f57 := by kernel_rfl
theorem e57 : entB Tryz.prog 57 = true := by kernel_rfl
theorem o57 : bodyOk (anL []) Tryz.f57 = true := by kernel_rfl
theorem w57 {ct : Ct} (ow : Nat → Bool) (ad : List Adj) {code : Code} (hb : Tryz.f57.body = some code) (hc : CtOk pg ct) {args : List V} {r : V} (ha : Nat.ble args.length 12 = true) (hr : r.noId = true) (h : exec ⟨pg, ct, ow, 12, anL [], true, none⟩ code ⟨argE args, hOf []⟩ (PostF pg.prog ad [.tmp 6] r [])) : PCall pg 57 args r := pcall_inF ad hc fol 57 n57 hb rfl e57 rfl (bodyOk_at o57 hb rfl) ha hr h
theorem n58 : Tryz.prog.funcs[58]? = some Tryz.f58 := by kernel_rfl
theorem e58 : entB Tryz.prog 58 = true := by kernel_rfl
theorem o58 : bodyOk (anL []) Tryz.f58 = true := by kernel_rfl
theorem w58 {ct : Ct} (ow : Nat → Bool) (ad : List Adj) {code : Code} (hb : Tryz.f58.body = some code) (hc : CtOk pg ct) {args : List V} {r : V} (ha : Nat.ble args.length 16 = true) (hr : r.noId = true) (h : exec ⟨pg, ct, ow, 16, anL [], true, none⟩ code ⟨argE args, hOf []⟩ (PostF pg.prog ad [.tmp 6] r [])) : PCall pg 58 args r := pcall_inF ad hc fol 58 n58 hb rfl e58 rfl (bodyOk_at o58 hb rfl) ha hr h
theorem n59 : Tryz.prog.funcs[59]? = some Tryz.f59 := by kernel_rfl
theorem e59 : entB Tryz.prog 59 = true := by kernel_rfl
theorem o59 : bodyOk (anL []) Tryz.f59 = true := by kernel_rfl
theorem w59 {ct : Ct} (ow : Nat → Bool) (ad : List Adj) {code : Code} (hb : Tryz.f59.body = some code) (hc : CtOk pg ct) {args : List V} {r : V} (ha : Nat.ble args.length 48 = true) (hr : r.noId = true) (h : exec ⟨pg, ct, ow, 48, anL [], true, none⟩ code ⟨argE args, hOf []⟩ (PostF pg.prog ad [.tmp 4] r [])) : PCall pg 59 args r := pcall_inF ad hc fol 59 n59 hb rfl e59 rfl (bodyOk_at o59 hb rfl) ha hr h
theorem n60 : Tryz.prog.funcs[60]? = some Tryz.f60 := by kernel_rfl
theorem e60 : entB Tryz.prog 60 = true := by kernel_rfl
theorem o60 : bodyOk (anL []) Tryz.f60 = true := by kernel_rfl
theorem w60 {ct : Ct} (ow : Nat → Bool) (ad : List Adj) {code : Code} (hb : Tryz.f60.body = some code) (hc : CtOk pg ct) {args : List V} {r : V} (ha : Nat.ble args.length 49 = true) (hr : r.noId = true) (h : exec ⟨pg, ct, ow, 49, anL [], true, none⟩ code ⟨argE args, hOf []⟩ (PostF pg.prog ad [.tmp 4] r [])) : PCall pg 60 args r := pcall_inF ad hc fol 60 n60 hb rfl e60 rfl (bodyOk_at o60 hb rfl) ha hr h
theorem n62 : Tryz.prog.funcs[62]? = some Tryz.f62 := by kernel_rfl
theorem e62 : entB Tryz.prog 62 = true := by kernel_rfl
theorem o62 : bodyOk (anL []) Tryz.f62 = true := by kernel_rfl
theorem w62 {ct : Ct} (ow : Nat → Bool) (ad : List Adj) {code : Code} (hb : Tryz.f62.body = some code) (hc : CtOk pg ct) {args : List V} {r : V} (ha : Nat.ble args.length 48 = true) (hr : r.noId = true) (h : exec ⟨pg, ct, ow, 48, anL [], true, none⟩ code ⟨argE args, hOf []⟩ (PostF pg.prog ad [.tmp 2] r [])) : PCall pg 62 args r := pcall_inF ad hc fol 62 n62 hb rfl e62 rfl (bodyOk_at o62 hb rfl) ha hr h
theorem n63 : Tryz.prog.funcs[63]? = some Tryz.f63 := by kernel_rfl
theorem e63 : entB Tryz.prog 63 = true := by kernel_rfl
theorem o63 : bodyOk (anL []) Tryz.f63 = true := by kernel_rfl
theorem w63 {ct : Ct} (ow : Nat → Bool) (ad : List Adj) {code : Code} (hb : Tryz.f63.body = some code) (hc : CtOk pg ct) {args : List V} {r : V} (ha : Nat.ble args.length 20 = true) (hr : r.noId = true) (h : exec ⟨pg, ct, ow, 20, anL [], true, none⟩ code ⟨argE args, hOf []⟩ (PostF pg.prog ad [.tmp 2] r [])) : PCall pg 63 args r := pcall_inF ad hc fol 63 n63 hb rfl e63 rfl (bodyOk_at o63 hb rfl) ha hr h
theorem n64 : Tryz.prog.funcs[64]? = some Tryz.f64 := by kernel_rfl
theorem e64 : entB Tryz.prog 64 = true := by kernel_rfl
theorem o64 : bodyOk (anL [(7, [0, 0, 2, 7, 0, 0, 32, 112, 15, 511, 1023])]) Tryz.f64 = true := by kernel_rfl
theorem w64 {ct : Ct} (ow : Nat → Bool) (ad : List Adj) {code : Code} (hb : Tryz.f64.body = some code) (hc : CtOk pg ct) {args : List V} {r : V} (ha : Nat.ble args.length 43 = true) (hr : r.noId = true) (h : exec ⟨pg, ct, ow, 43, anL [(7, [0, 0, 2, 7, 0, 0, 32, 112, 15, 511, 1023])], true, none⟩ code ⟨argE args, hOf []⟩ (PostF pg.prog ad [.tmp 4, .tmp 5] r [])) : PCall pg 64 args r := pcall_inF ad hc fol 64 n64 hb rfl e64 rfl (bodyOk_at o64 hb rfl) ha hr h
theorem n65 : Tryz.prog.funcs[65]? = some Tryz.f65 := by kernel_rfl
theorem e65 : entB Tryz.prog 65 = true := by kernel_rfl
theorem o65 : bodyOk (anL [(6, [0, 1, 3, 7, 15, 31, 7, 7, 199, 455, 967, 1991, 4095, 8191, 16383, 32767, 65535, 131071, 32767, 32767, 819199, 1867775, 3964927, 8159231, 16777215, 33554431, 67108863, 134217727, 268435455, 536870911, 1073741823, 1073741823, 4294967295, 8589934591, 17179869183, 34359738367, 68719476735, 137438953471])]) Tryz.f65 = true := by kernel_rfl
theorem w65 {ct : Ct} (ow : Nat → Bool) (ad : List Adj) {code : Code} (hb : Tryz.f65.body = some code) (hc : CtOk pg ct) {args : List V} {r : V} (ha : Nat.ble args.length 61 = true) (hr : r.noId = true) (h : exec ⟨pg, ct, ow, 61, anL [(6, [0, 1, 3, 7, 15, 31, 7, 7, 199, 455, 967, 1991, 4095, 8191, 16383, 32767, 65535, 131071, 32767, 32767, 819199, 1867775, 3964927, 8159231, 16777215, 33554431, 67108863, 134217727, 268435455, 536870911, 1073741823, 1073741823, 4294967295, 8589934591, 17179869183, 34359738367, 68719476735, 137438953471])], true, none⟩ code ⟨argE args, hOf []⟩ (PostF pg.prog ad [.tmp 4] r [])) : PCall pg 65 args r := pcall_inF ad hc fol 65 n65 hb rfl e65 rfl (bodyOk_at o65 hb rfl) ha hr h
theorem n66 : Tryz.prog.funcs[66]? = some Tryz.f66 := by kernel_rfl
theorem e66 : entB Tryz.prog 66 = true := by kernel_rfl
theorem o66 : bodyOk (anL [(8, [0, 0, 0, 6, 15, 0, 0, 0, 128, 480, 992, 2047, 0, 0, 8192, 28672, 4095, 131071]), (4, [0, 0, 0, 4, 14, 31, 0, 0, 128, 448, 63, 2047])]) Tryz.f66 = true := by kernel_rfl
theorem w66 {ct : Ct} (ow : Nat → Bool) (ad : List Adj) {code : Code} (hb : Tryz.f66.body = some code) (hc : CtOk pg ct) {args : List V} {r : V} (ha : Nat.ble args.length 62 = true) (hr : r.noId = true) (h : exec ⟨pg, ct, ow, 62, anL [(8, [0, 0, 0, 6, 15, 0, 0, 0, 128, 480, 992, 2047, 0, 0, 8192, 28672, 4095, 131071]), (4, [0, 0, 0, 4, 14, 31, 0, 0, 128, 448, 63, 2047])], true, none⟩ code ⟨argE args, hOf []⟩ (PostF pg.prog ad [.tmp 2] r [])) : PCall pg 66 args r := pcall_inF ad hc fol 66 n66 hb rfl e66 rfl (bodyOk_at o66 hb rfl) ha hr h
theorem n67 : Tryz.prog.funcs[67]? = some Tryz.f67 := by kernel_rfl
theorem e67 : entB Tryz.prog 67 = true := by kernel_rfl
theorem o67 : bodyOk (anL []) Tryz.f67 = true := by kernel_rfl
theorem w67 {ct : Ct} (ow : Nat → Bool) (ad : List Adj) {code : Code} (hb : Tryz.f67.body = some code) (hc : CtOk pg ct) {args : List V} {r : V} (ha : Nat.ble args.length 15 = true) (hr : r.noId = true) (h : exec ⟨pg, ct, ow, 15, anL [], true, none⟩ code ⟨argE args, hOf []⟩ (PostF pg.prog ad [.tmp 6] r [])) : PCall pg 67 args r := pcall_inF ad hc fol 67 n67 hb rfl e67 rfl (bodyOk_at o67 hb rfl) ha hr h
theorem n70 : Tryz.prog.funcs[70]? = some Tryz.f70 := by kernel_rfl
theorem e70 : entB Tryz.prog 70 = true := by kernel_rfl
theorem o70 : bodyOk (anL []) Tryz.f70 = true := by kernel_rfl
theorem w70 {ct : Ct} (ow : Nat → Bool) (ad : List Adj) {code : Code} (hb : Tryz.f70.body = some code) (hc : CtOk pg ct) {args : List V} {r : V} (ha : Nat.ble args.length 5 = true) (hr : r.noId = true) (h : exec ⟨pg, ct, ow, 5, anL [], true, none⟩ code ⟨argE args, hOf []⟩ (PostF pg.prog ad [.tmp 2] r [])) : PCall pg 70 args r := pcall_inF ad hc fol 70 n70 hb rfl e70 rfl (bodyOk_at o70 hb rfl) ha hr h
theorem n71 : Tryz.prog.funcs[71]? = some Tryz.f71 := by kernel_rfl
theorem e71 : entB Tryz.prog 71 = true := by kernel_rfl
theorem o71 : bodyOk (anL []) Tryz.f71 = true := by kernel_rfl
theorem nw71 {ct : Ct} (ow : Nat → Bool) (ad : List Adj) {code : Code} (hb : Tryz.f71.body = some code) (hc : CtOk pg ct) {args : List V} {r : V} {nb : Blk} (ha : Nat.ble args.length 8 = true) (hr : r.newOkP = true) (hnb : noIdB nb) (h : exec ⟨pg, ct, ow, 8, anL [], false, none⟩ code ⟨argE args, hOf []⟩ (PostF pg.prog ad [.tmp 2] r [(8999, nb)])) : NCall pg 71 args r nb := ncall_inF ad hc fol 71 n71 hb rfl e71 rfl (bodyOk_at o71 hb rfl) ha hr hnb h
theorem n72 : Tryz.prog.funcs[72]? = some Tryz.f72 := by kernel_rfl
theorem e72 : entB Tryz.prog 72 = true := by kernel_rfl
theorem o72 : bodyOk (anL []) Tryz.f72 = true := by kernel_rfl
theorem w72 {ct : Ct} (ow : Nat → Bool) (ad : List Adj) {code : Code} (hb : Tryz.f72.body = some code) (hc : CtOk pg ct) {args : List V} {r : V} (ha : Nat.ble args.length 8 = true) (hr : r.noId = true) (h : exec ⟨pg, ct, ow, 8, anL [], true, none⟩ code ⟨argE args, hOf []⟩ (PostF pg.prog ad [.tmp 2] r [])) : PCall pg 72 args r := pcall_inF ad hc fol 72 n72 hb rfl e72 rfl (bodyOk_at o72 hb rfl) ha hr h
theorem n88 : Tryz.prog.funcs[88]? = some Tryz.f88 := by kernel_rfl
theorem e88 : entB Tryz.prog 88 = true := by kernel_rfl
theorem o88 : bodyOk (anL [(10, [0, 0, 2, 0, 0, 16, 56, 126, 254, 0, 512, 2046, 4095, 8191])]) Tryz.f88 = true := by kernel_rfl
theorem w88 {ct : Ct} (ow : Nat → Bool) (ad : List Adj) {code : Code} (hb : Tryz.f88.body = some code) (hc : CtOk pg ct) {args : List V} {r : V} (ha : Nat.ble args.length 49 = true) (hr : r.noId = true) (h : exec ⟨pg, ct, ow, 49, anL [(10, [0, 0, 2, 0, 0, 16, 56, 126, 254, 0, 512, 2046, 4095, 8191])], true, none⟩ code ⟨argE args, hOf []⟩ (PostF pg.prog ad [.tmp 4, .tmp 5] r [])) : PCall pg 88 args r := pcall_inF ad hc fol 88 n88 hb rfl e88 rfl (bodyOk_at o88 hb rfl) ha hr h
theorem n89 : Tryz.prog.funcs[89]? = some Tryz.f89 := by kernel_rfl
theorem e89 : entB Tryz.prog 89 = true := by kernel_rfl
theorem o89 : bodyOk (anL []) Tryz.f89 = true := by kernel_rfl
theorem w89 {ct : Ct} (ow : Nat → Bool) (ad : List Adj) {code : Code} (hb : Tryz.f89.body = some code) (hc : CtOk pg ct) {args : List V} {r : V} (ha : Nat.ble args.length 7 = true) (hr : r.noId = true) (h : exec ⟨pg, ct, ow, 7, anL [], true, none⟩ code ⟨argE args, hOf []⟩ (PostF pg.prog ad [.tmp 2] r [])) : PCall pg 89 args r := pcall_inF ad hc fol 89 n89 hb rfl e89 rfl (bodyOk_at o89 hb rfl) ha hr h
theorem n90 : Tryz.prog.funcs[90]? = some Tryz.f90 := by kernel_rfl
theorem e90 : entB Tryz.prog 90 = true := by kernel_rfl
theorem o90 : bodyOk (anL [(4, [0, 0, 3, 7, 15, 15, 15, 111, 239, 15, 15, 1039, 3599, 7695, 16383, 32767, 65535]), (6, [0, 0, 0, 0, 8, 0, 0, 64, 224, 480, 0, 0, 3072, 7168, 16355, 32739, 65535, 131071])]) Tryz.f90 = true := by kernel_rfl
theorem fw90 {ct : Ct} (ow : Nat → Bool) (ad : List Adj) {code : Code} (hb : Tryz.f90.body = some code) (hc : CtOk pg ct) {args : List V} {hl hl' : HL} {r : V} (ha : Nat.ble args.length 53 = true) (hlo : ∀ p ∈ hl, 9000 ≤ p.1) (hin : hlIn (idsIn hl) hl') (hr : V.menIn (idsIn hl) r = true) (h : exec ⟨pg, ct, ow, 53, anL [(4, [0, 0, 3, 7, 15, 15, 15, 111, 239, 15, 15, 1039, 3599, 7695, 16383, 32767, 65535]), (6, [0, 0, 0, 0, 8, 0, 0, 64, 224, 480, 0, 0, 3072, 7168, 16355, 32739, 65535, 131071])], true, none⟩ code ⟨argE args, hOf hl⟩ (PostF pg.prog ad [] r hl')) : FCall pg 90 args hl r hl' := fcall_inF ad hc fol 90 n90 hb rfl e90 rfl (bodyOk_at o90 hb rfl) ha hlo hin hr h
theorem n91 : Tryz.prog.funcs[91]? = some Tryz.f91 := by kernel_rfl
theorem e91 : entB Tryz.prog 91 = true := by kernel_rfl
theorem o91 : bodyOk (anL [(5, [0, 0, 0, 6, 14, 0, 0, 96, 224, 511, 1023]), (11, [0, 0, 0, 0, 8, 0, 0, 64, 224, 480, 0, 0, 3072, 7168, 16355, 32739, 65535, 131071]), (17, [0, 0, 0, 6, 14, 0, 0, 96, 224, 511, 1023, 2047]), (23, [0, 0, 0, 0, 8, 0, 0, 64, 224, 480, 0, 0, 3072, 7168, 16355, 32739, 65535, 131071]), (35, [0, 0, 0, 0, 12, 30, 62, 0, 0, 384, 896, 2047, 4095, 8191])]) Tryz.f91 = true := by kernel_rfl
theorem fw91 {ct : Ct} (ow : Nat → Bool) (ad : List Adj) {code : Code} (hb : Tryz.f91.body = some code) (hc : CtOk pg ct) {args : List V} {hl hl' : HL} {r : V} (ha : Nat.ble args.length 220 = true) (hlo : ∀ p ∈ hl, 9000 ≤ p.1) (hin : hlIn (idsIn hl) hl') (hr : V.menIn (idsIn hl) r = true) (h : exec ⟨pg, ct, ow, 220, anL [(5, [0, 0, 0, 6, 14, 0, 0, 96, 224, 511, 1023]), (11, [0, 0, 0, 0, 8, 0, 0, 64, 224, 480, 0, 0, 3072, 7168, 16355, 32739, 65535, 131071]), (17, [0, 0, 0, 6, 14, 0, 0, 96, 224, 511, 1023, 2047]), (23, [0, 0, 0, 0, 8, 0, 0, 64, 224, 480, 0, 0, 3072, 7168, 16355, 32739, 65535, 131071]), (35, [0, 0, 0, 0, 12, 30, 62, 0, 0, 384, 896, 2047, 4095, 8191])], true, none⟩ code ⟨argE args, hOf hl⟩ (PostF pg.prog ad [] r hl')) : FCall pg 91 args hl r hl' := fcall_inF ad hc fol 91 n91 hb rfl e91 rfl (bodyOk_at o91 hb rfl) ha hlo hin hr h
theorem n92 : Tryz.prog.funcs[92]? = some Tryz.f92 := by kernel_rfl
theorem e92 : entB Tryz.prog 92 = true := by kernel_rfl
theorem o92 : bodyOk (anL []) Tryz.f92 = true := by kernel_rfl
theorem w92 {ct : Ct} (ow : Nat → Bool) (ad : List Adj) {code : Code} (hb : Tryz.f92.body = some code) (hc : CtOk pg ct) {args : List V} {r : V} (ha : Nat.ble args.length 17 = true) (hr : r.noId = true) (h : exec ⟨pg, ct, ow, 17, anL [], true, none⟩ code ⟨argE args, hOf []⟩ (PostF pg.prog ad [.tmp 2] r [])) : PCall pg 92 args r := pcall_inF ad hc fol 92 n92 hb rfl e92 rfl (bodyOk_at o92 hb rfl) ha hr h
theorem n94 : Tryz.prog.funcs[94]? = some Tryz.f94 := by kernel_rfl
theorem e94 : entB Tryz.prog 94 = true := by kernel_rfl
theorem o94 : bodyOk (anL []) Tryz.f94 = true := by kernel_rfl
theorem w94 {ct : Ct} (ow : Nat → Bool) (ad : List Adj) {code : Code} (hb : Tryz.f94.body = some code) (hc : CtOk pg ct) {args : List V} {r : V} (ha : Nat.ble args.length 49 = true) (hr : r.noId = true) (h : exec ⟨pg, ct, ow, 49, anL [], true, none⟩ code ⟨argE args, hOf []⟩ (PostF pg.prog ad [.tmp 2] r [])) : PCall pg 94 args r := pcall_inF ad hc fol 94 n94 hb rfl e94 rfl (bodyOk_at o94 hb rfl) ha hr h
theorem n95 : Tryz.prog.funcs[95]? = some Tryz.f95 := by kernel_rfl
theorem e95 : entB Tryz.prog 95 = true := by kernel_rfl
theorem o95 : bodyOk (anL []) Tryz.f95 = true := by kernel_rfl
theorem w95 {ct : Ct} (ow : Nat → Bool) (ad : List Adj) {code : Code} (hb : Tryz.f95.body = some code) (hc : CtOk pg ct) {args : List V} {r : V} (ha : Nat.ble args.length 18 = true) (hr : r.noId = true) (h : exec ⟨pg, ct, ow, 18, anL [], true, none⟩ code ⟨argE args, hOf []⟩ (PostF pg.prog ad [.tmp 4] r [])) : PCall pg 95 args r := pcall_inF ad hc fol 95 n95 hb rfl e95 rfl (bodyOk_at o95 hb rfl) ha hr h
theorem n97 : Tryz.prog.funcs[97]? = some Tryz.f97 := by kernel_rfl
theorem e97 : entB Tryz.prog 97 = true := by kernel_rfl
theorem o97 : bodyOk (anL []) Tryz.f97 = true := by kernel_rfl
theorem w97 {ct : Ct} (ow : Nat → Bool) (ad : List Adj) {code : Code} (hb : Tryz.f97.body = some code) (hc : CtOk pg ct) {args : List V} {r : V} (ha : Nat.ble args.length 8 = true) (hr : r.noId = true) (h : exec ⟨pg, ct, ow, 8, anL [], true, none⟩ code ⟨argE args, hOf []⟩ (PostF pg.prog ad [.tmp 4] r [])) : PCall pg 97 args r := pcall_inF ad hc fol 97 n97 hb rfl e97 rfl (bodyOk_at o97 hb rfl) ha hr h
theorem n98 : Tryz.prog.funcs[98]? = some Tryz.f98 := by kernel_rfl
theorem e98 : entB Tryz.prog 98 = true := by kernel_rfl
theorem o98 : bodyOk (anL []) Tryz.f98 = true := by kernel_rfl
theorem w98 {ct : Ct} (ow : Nat → Bool) (ad : List Adj) {code : Code} (hb : Tryz.f98.body = some code) (hc : CtOk pg ct) {args : List V} {r : V} (ha : Nat.ble args.length 65 = true) (hr : r.noId = true) (h : exec ⟨pg, ct, ow, 65, anL [], true, none⟩ code ⟨argE args, hOf []⟩ (PostF pg.prog ad [.tmp 4, .tmp 5] r [])) : PCall pg 98 args r := pcall_inF ad hc fol 98 n98 hb rfl e98 rfl (bodyOk_at o98 hb rfl) ha hr h
theorem n99 : Tryz.prog.funcs[99]? = some Tryz.f99 := by kernel_rfl
theorem e99 : entB Tryz.prog 99 = true := by kernel_rfl
theorem o99 : bodyOk (anL []) Tryz.f99 = true := by kernel_rfl
theorem w99 {ct : Ct} (ow : Nat → Bool) (ad : List Adj) {code : Code} (hb : Tryz.f99.body = some code) (hc : CtOk pg ct) {args : List V} {r : V} (ha : Nat.ble args.length 21 = true) (hr : r.noId = true) (h : exec ⟨pg, ct, ow, 21, anL [], true, none⟩ code ⟨argE args, hOf []⟩ (PostF pg.prog ad [.tmp 2] r [])) : PCall pg 99 args r := pcall_inF ad hc fol 99 n99 hb rfl e99 rfl (bodyOk_at o99 hb rfl) ha hr h
theorem n100 : Tryz.prog.funcs[100]? = some Tryz.f100 := by kernel_rfl
theorem e100 : entB Tryz.prog 100 = true := by kernel_rfl
theorem o100 : bodyOk (anL []) Tryz.f100 = true := by kernel_rfl
theorem w100 {ct : Ct} (ow : Nat → Bool) (ad : List Adj) {code : Code} (hb : Tryz.f100.body = some code) (hc : CtOk pg ct) {args : List V} {r : V} (ha : Nat.ble args.length 55 = true) (hr : r.noId = true) (h : exec ⟨pg, ct, ow, 55, anL [], true, none⟩ code ⟨argE args, hOf []⟩ (PostF pg.prog ad [.tmp 4] r [])) : PCall pg 100 args r := pcall_inF ad hc fol 100 n100 hb rfl e100 rfl (bodyOk_at o100 hb rfl) ha hr h
theorem n102 : Tryz.prog.funcs[102]? = some Tryz.f102 := by kernel_rfl
theorem e102 : entB Tryz.prog 102 = true := by kernel_rfl
theorem o102 : bodyOk (anL [(7, [0, 0, 2, 7, 15, 31, 0, 0, 128, 448, 991, 2047, 4095]), (10, [0, 0, 2, 6, 0, 16, 48, 126, 255, 511])]) Tryz.f102 = true := by kernel_rfl
theorem w102 {ct : Ct} (ow : Nat → Bool) (ad : List Adj) {code : Code} (hb : Tryz.f102.body = some code) (hc : CtOk pg ct) {args : List V} {r : V} (ha : Nat.ble args.length 73 = true) (hr : r.noId = true) (h : exec ⟨pg, ct, ow, 73, anL [(7, [0, 0, 2, 7, 15, 31, 0, 0, 128, 448, 991, 2047, 4095]), (10, [0, 0, 2, 6, 0, 16, 48, 126, 255, 511])], true, none⟩ code ⟨argE args, hOf []⟩ (PostF pg.prog ad [.tmp 2] r [])) : PCall pg 102 args r := pcall_inF ad hc fol 102 n102 hb rfl e102 rfl (bodyOk_at o102 hb rfl) ha hr h
theorem n103 : Tryz.prog.funcs[103]? = some Tryz.f103 := by kernel_rfl
theorem e103 : entB Tryz.prog 103 = true := by kernel_rfl
theorem o103 : bodyOk (anL []) Tryz.f103 = true := by kernel_rfl
theorem w103 {ct : Ct} (ow : Nat → Bool) (ad : List Adj) {code : Code} (hb : Tryz.f103.body = some code) (hc : CtOk pg ct) {args : List V} {r : V} (ha : Nat.ble args.length 47 = true) (hr : r.noId = true) (h : exec ⟨pg, ct, ow, 47, anL [], true, none⟩ code ⟨argE args, hOf []⟩ (PostF pg.prog ad [.tmp 2] r [])) : PCall pg 103 args r := pcall_inF ad hc fol 103 n103 hb rfl e103 rfl (bodyOk_at o103 hb rfl) ha hr h
theorem n104 : Tryz.prog.funcs[104]? = some Tryz.f104 := by kernel_rfl
theorem e104 : entB Tryz.prog 104 = true := by kernel_rfl
theorem o104 : bodyOk (anL []) Tryz.f104 = true := by kernel_rfl
theorem w104 {ct : Ct} (ow : Nat → Bool) (ad : List Adj) {code : Code} (hb : Tryz.f104.body = some code) (hc : CtOk pg ct) {args : List V} {r : V} (ha : Nat.ble args.length 15 = true) (hr : r.noId = true) (h : exec ⟨pg, ct, ow, 15, anL [], true, none⟩ code ⟨argE args, hOf []⟩ (PostF pg.prog ad [.tmp 4, .tmp 5] r [])) : PCall pg 104 args r := pcall_inF ad hc fol 104 n104 hb rfl e104 rfl (bodyOk_at o104 hb rfl) ha hr h
theorem n105 : Tryz.prog.funcs[105]? = some Tryz.f105 := by kernel_rfl
theorem e105 : entB Tryz.prog 105 = true := by kernel_rfl
theorem o105 : bodyOk (anL []) Tryz.f105 = true := by kernel_rfl
theorem w105 {ct : Ct} (ow : Nat → Bool) (ad : List Adj) {code : Code} (hb : Tryz.f105.body = some code) (hc : CtOk pg ct) {args : List V} {r : V} (ha : Nat.ble args.length 9 = true) (hr : r.noId = true) (h : exec ⟨pg, ct, ow, 9, anL [], true, none⟩ code ⟨argE args, hOf []⟩ (PostF pg.prog ad [.tmp 4] r [])) : PCall pg 105 args r := pcall_inF ad hc fol 105 n105 hb rfl e105 rfl (bodyOk_at o105 hb rfl) ha hr h
theorem n106 : Tryz.prog.funcs[106]? = some Tryz.f106 := by kernel_rfl
theorem e106 : entB Tryz.prog 106 = true := by kernel_rfl
theorem o106 : bodyOk (anL [(3, [0, 0, 0, 0, 0, 0, 48, 112, 0, 0, 768, 1792, 4083, 8179, 16383, 32767])]) Tryz.f106 = true := by kernel_rfl
theorem fw106 {ct : Ct} (ow : Nat → Bool) (ad : List Adj) {code : Code} (hb : Tryz.f106.body = some code) (hc : CtOk pg ct) {args : List V} {hl hl' : HL} {r : V} (ha : Nat.ble args.length 28 = true) (hlo : ∀ p ∈ hl, 9000 ≤ p.1) (hin : hlIn (idsIn hl) hl') (hr : V.menIn (idsIn hl) r = true) (h : exec ⟨pg, ct, ow, 28, anL [(3, [0, 0, 0, 0, 0, 0, 48, 112, 0, 0, 768, 1792, 4083, 8179, 16383, 32767])], true, none⟩ code ⟨argE args, hOf hl⟩ (PostF pg.prog ad [] r hl')) : FCall pg 106 args hl r hl' := fcall_inF ad hc fol 106 n106 hb rfl e106 rfl (bodyOk_at o106 hb rfl) ha hlo hin hr h
theorem n108 : Tryz.prog.funcs[108]? = some Tryz.f108 := by kernel_rfl
theorem e108 : entB Tryz.prog 108 = true := by kernel_rfl
theorem o108 : bodyOk (anL []) Tryz.f108 = true := by kernel_rfl
theorem w108 {ct : Ct} (ow : Nat → Bool) (ad : List Adj) {code : Code} (hb : Tryz.f108.body = some code) (hc : CtOk pg ct) {args : List V} {r : V} (ha : Nat.ble args.length 42 = true) (hr : r.noId = true) (h : exec ⟨pg, ct, ow, 42, anL [], true, none⟩ code ⟨argE args, hOf []⟩ (PostF pg.prog ad [.tmp 2] r [])) : PCall pg 108 args r := pcall_inF ad hc fol 108 n108 hb rfl e108 rfl (bodyOk_at o108 hb rfl) ha hr h
theorem n109 : Tryz.prog.funcs[109]? = some Tryz.f109 := by kernel_rfl
theorem e109 : entB Tryz.prog 109 = true := by kernel_rfl
theorem o109 : bodyOk (anL []) Tryz.f109 = true := by kernel_rfl
theorem w109 {ct : Ct} (ow : Nat → Bool) (ad : List Adj) {code : Code} (hb : Tryz.f109.body = some code) (hc : CtOk pg ct) {args : List V} {r : V} (ha : Nat.ble args.length 8 = true) (hr : r.noId = true) (h : exec ⟨pg, ct, ow, 8, anL [], true, none⟩ code ⟨argE args, hOf []⟩ (PostF pg.prog ad [.tmp 4] r [])) : PCall pg 109 args r := pcall_inF ad hc fol 109 n109 hb rfl e109 rfl (bodyOk_at o109 hb rfl) ha hr h
theorem n111 : Tryz.prog.funcs[111]? = some Tryz.f111 := by kernel_rfl
theorem e111 : entB Tryz.prog 111 = true := by kernel_rfl
theorem o111 : bodyOk (anL []) Tryz.f111 = true := by kernel_rfl
theorem w111 {ct : Ct} (ow : Nat → Bool) (ad : List Adj) {code : Code} (hb : Tryz.f111.body = some code) (hc : CtOk pg ct) {args : List V} {r : V} (ha : Nat.ble args.length 50 = true) (hr : r.noId = true) (h : exec ⟨pg, ct, ow, 50, anL [], true, none⟩ code ⟨argE args, hOf []⟩ (PostF pg.prog ad [.tmp 2] r [])) : PCall pg 111 args r := pcall_inF ad hc fol 111 n111 hb rfl e111 rfl (bodyOk_at o111 hb rfl) ha hr h
theorem n112 : Tryz.prog.funcs[112]? = some Tryz.f112 := by kernel_rfl
theorem e112 : entB Tryz.prog 112 = true := by kernel_rfl
theorem o112 : bodyOk (anL []) Tryz.f112 = true := by kernel_rfl
theorem w112 {ct : Ct} (ow : Nat → Bool) (ad : List Adj) {code : Code} (hb : Tryz.f112.body = some code) (hc : CtOk pg ct) {args : List V} {r : V} (ha : Nat.ble args.length 17 = true) (hr : r.noId = true) (h : exec ⟨pg, ct, ow, 17, anL [], true, none⟩ code ⟨argE args, hOf []⟩ (PostF pg.prog ad [.tmp 4] r [])) : PCall pg 112 args r := pcall_inF ad hc fol 112 n112 hb rfl e112 rfl (bodyOk_at o112 hb rfl) ha hr h
theorem n113 : Tryz.prog.funcs[113]? = some Tryz.f113 := by kernel_rfl
theorem e113 : entB Tryz.prog 113 = true := by kernel_rfl
theorem o113 : bodyOk (anL []) Tryz.f113 = true := by kernel_rfl
theorem w113 {ct : Ct} (ow : Nat → Bool) (ad : List Adj) {code : Code} (hb : Tryz.f113.body = some code) (hc : CtOk pg ct) {args : List V} {r : V} (ha : Nat.ble args.length 21 = true) (hr : r.noId = true) (h : exec ⟨pg, ct, ow, 21, anL [], true, none⟩ code ⟨argE args, hOf []⟩ (PostF pg.prog ad [.tmp 2] r [])) : PCall pg 113 args r := pcall_inF ad hc fol 113 n113 hb rfl e113 rfl (bodyOk_at o113 hb rfl) ha hr h
theorem n123 : Tryz.prog.funcs[123]? = some Tryz.f123 := by kernel_rfl
theorem e123 : entB Tryz.prog 123 = true := by kernel_rfl
theorem o123 : bodyOk (anL []) Tryz.f123 = true := by kernel_rfl
theorem w123 {ct : Ct} (ow : Nat → Bool) (ad : List Adj) {code : Code} (hb : Tryz.f123.body = some code) (hc : CtOk pg ct) {args : List V} {r : V} (ha : Nat.ble args.length 12 = true) (hr : r.noId = true) (h : exec ⟨pg, ct, ow, 12, anL [], true, none⟩ code ⟨argE args, hOf []⟩ (PostF pg.prog ad [.tmp 4, .tmp 5] r [])) : PCall pg 123 args r := pcall_inF ad hc fol 123 n123 hb rfl e123 rfl (bodyOk_at o123 hb rfl) ha hr h
theorem n124 : Tryz.prog.funcs[124]? = some Tryz.f124 := by kernel_rfl
theorem e124 : entB Tryz.prog 124 = true := by kernel_rfl
theorem o124 : bodyOk (anL []) Tryz.f124 = true := by kernel_rfl
theorem fw124 {ct : Ct} (ow : Nat → Bool) (ad : List Adj) {code : Code} (hb : Tryz.f124.body = some code) (hc : CtOk pg ct) {args : List V} {hl hl' : HL} {r : V} (ha : Nat.ble args.length 58 = true) (hlo : ∀ p ∈ hl, 9000 ≤ p.1) (hin : hlIn (idsIn hl) hl') (hr : V.menIn (idsIn hl) r = true) (h : exec ⟨pg, ct, ow, 58, anL [], true, none⟩ code ⟨argE args, hOf hl⟩ (PostF pg.prog ad [] r hl')) : FCall pg 124 args hl r hl' := fcall_inF ad hc fol 124 n124 hb rfl e124 rfl (bodyOk_at o124 hb rfl) ha hlo hin hr h
theorem n135 : Tryz.prog.funcs[135]? = some Tryz.f135 := by kernel_rfl
theorem e135 : entB Tryz.prog 135 = true := by kernel_rfl
theorem o135 : bodyOk (anL []) Tryz.f135 = true := by kernel_rfl
theorem w135 {ct : Ct} (ow : Nat → Bool) (ad : List Adj) {code : Code} (hb : Tryz.f135.body = some code) (hc : CtOk pg ct) {args : List V} {r : V} (ha : Nat.ble args.length 5 = true) (hr : r.noId = true) (h : exec ⟨pg, ct, ow, 5, anL [], true, none⟩ code ⟨argE args, hOf []⟩ (PostF pg.prog ad [.tmp 2] r [])) : PCall pg 135 args r := pcall_inF ad hc fol 135 n135 hb rfl e135 rfl (bodyOk_at o135 hb rfl) ha hr h
theorem n137 : Tryz.prog.funcs[137]? = some Tryz.f137 := by kernel_rfl
theorem e137 : entB Tryz.prog 137 = true := by kernel_rfl
theorem o137 : bodyOk (anL []) Tryz.f137 = true := by kernel_rfl
theorem w137 {ct : Ct} (ow : Nat → Bool) (ad : List Adj) {code : Code} (hb : Tryz.f137.body = some code) (hc : CtOk pg ct) {args : List V} {r : V} (ha : Nat.ble args.length 17 = true) (hr : r.noId = true) (h : exec ⟨pg, ct, ow, 17, anL [], true, none⟩ code ⟨argE args, hOf []⟩ (PostF pg.prog ad [.tmp 2] r [])) : PCall pg 137 args r := pcall_inF ad hc fol 137 n137 hb rfl e137 rfl (bodyOk_at o137 hb rfl) ha hr h
theorem n138 : Tryz.prog.funcs[138]? = some Tryz.f138 := by kernel_rfl
theorem e138 : entB Tryz.prog 138 = true := by kernel_rfl
theorem o138 : bodyOk (anL [(4, [0, 0, 0, 6, 14, 31])]) Tryz.f138 = true := by kernel_rfl
theorem w138 {ct : Ct} (ow : Nat → Bool) (ad : List Adj) {code : Code} (hb : Tryz.f138.body = some code) (hc : CtOk pg ct) {args : List V} {r : V} (ha : Nat.ble args.length 19 = true) (hr : r.noId = true) (h : exec ⟨pg, ct, ow, 19, anL [(4, [0, 0, 0, 6, 14, 31])], true, none⟩ code ⟨argE args, hOf []⟩ (PostF pg.prog ad [.tmp 4] r [])) : PCall pg 138 args r := pcall_inF ad hc fol 138 n138 hb rfl e138 rfl (bodyOk_at o138 hb rfl) ha hr h
theorem n142 : Tryz.prog.funcs[142]? = some Tryz.f142 := by kernel_rfl
theorem e142 : entB Tryz.prog 142 = true := by kernel_rfl
theorem o142 : bodyOk (anL []) Tryz.f142 = true := by kernel_rfl
theorem w142 {ct : Ct} (ow : Nat → Bool) (ad : List Adj) {code : Code} (hb : Tryz.f142.body = some code) (hc : CtOk pg ct) {args : List V} {r : V} (ha : Nat.ble args.length 19 = true) (hr : r.noId = true) (h : exec ⟨pg, ct, ow, 19, anL [], true, none⟩ code ⟨argE args, hOf []⟩ (PostF pg.prog ad [.tmp 4] r [])) : PCall pg 142 args r := pcall_inF ad hc fol 142 n142 hb rfl e142 rfl (bodyOk_at o142 hb rfl) ha hr h
theorem n144 : Tryz.prog.funcs[144]? = some Tryz.f144 := by kernel_rfl
theorem e144 : entB Tryz.prog 144 = true := by kernel_rfl
theorem o144 : bodyOk (anL []) Tryz.f144 = true := by kernel_rfl
theorem w144 {ct : Ct} (ow : Nat → Bool) (ad : List Adj) {code : Code} (hb : Tryz.f144.body = some code) (hc : CtOk pg ct) {args : List V} {r : V} (ha : Nat.ble args.length 57 = true) (hr : r.noId = true) (h : exec ⟨pg, ct, ow, 57, anL [], true, none⟩ code ⟨argE args, hOf []⟩ (PostF pg.prog ad [.tmp 2] r [])) : PCall pg 144 args r := pcall_inF ad hc fol 144 n144 hb rfl e144 rfl (bodyOk_at o144 hb rfl) ha hr h
theorem n145 : Tryz.prog.funcs[145]? = some Tryz.f145 := by kernel_rfl
theorem e145 : entB Tryz.prog 145 = true := by kernel_rfl
theorem o145 : bodyOk (anL []) Tryz.f145 = true := by kernel_rfl
theorem w145 {ct : Ct} (ow : Nat → Bool) (ad : List Adj) {code : Code} (hb : Tryz.f145.body = some code) (hc : CtOk pg ct) {args : List V} {r : V} (ha : Nat.ble args.length 11 = true) (hr : r.noId = true) (h : exec ⟨pg, ct, ow, 11, anL [], true, none⟩ code ⟨argE args, hOf []⟩ (PostF pg.prog ad [.tmp 4, .tmp 5] r [])) : PCall pg 145 args r := pcall_inF ad hc fol 145 n145 hb rfl e145 rfl (bodyOk_at o145 hb rfl) ha hr h
theorem n146 : Tryz.prog.funcs[146]? = some Tryz.f146 := by kernel_rfl
theorem e146 : entB Tryz.prog 146 = true := by kernel_rfl
theorem o146 : bodyOk (anL [(15, [0, 0, 0, 0, 8, 28, 60, 124, 252, 252, 764, 2044, 252, 252, 12540, 32764, 65532, 131071, 262143])]) Tryz.f146 = true := by kernel_rfl
theorem w146 {ct : Ct} (ow : Nat → Bool) (ad : List Adj) {code : Code} (hb : Tryz.f146.body = some code) (hc : CtOk pg ct) {args : List V} {r : V} (ha : Nat.ble args.length 78 = true) (hr : r.noId = true) (h : exec ⟨pg, ct, ow, 78, anL [(15, [0, 0, 0, 0, 8, 28, 60, 124, 252, 252, 764, 2044, 252, 252, 12540, 32764, 65532, 131071, 262143])], true, none⟩ code ⟨argE args, hOf []⟩ (PostF pg.prog ad [.tmp 6] r [])) : PCall pg 146 args r := pcall_inF ad hc fol 146 n146 hb rfl e146 rfl (bodyOk_at o146 hb rfl) ha hr h
theorem n150 : Tryz.prog.funcs[150]? = some Tryz.f150 := by kernel_rfl
theorem e150 : entB Tryz.prog 150 = true := by kernel_rfl
theorem o150 : bodyOk (anL []) Tryz.f150 = true := by kernel_rfl
theorem w150 {ct : Ct} (ow : Nat → Bool) (ad : List Adj) {code : Code} (hb : Tryz.f150.body = some code) (hc : CtOk pg ct) {args : List V} {r : V} (ha : Nat.ble args.length 49 = true) (hr : r.noId = true) (h : exec ⟨pg, ct, ow, 49, anL [], true, none⟩ code ⟨argE args, hOf []⟩ (PostF pg.prog ad [.tmp 6, .tmp 7] r [])) : PCall pg 150 args r := pcall_inF ad hc fol 150 n150 hb rfl e150 rfl (bodyOk_at o150 hb rfl) ha hr h
theorem n152 : Tryz.prog.funcs[152]? = some Tryz.f152 := by kernel_rfl
theorem e152 : entB Tryz.prog 152 = true := by kernel_rfl
theorem o152 : bodyOk (anL [(3, [0, 0, 0, 6, 0, 0, 0, 96, 0, 0, 0, 1536, 3840, 7936, 0, 0, 0, 98304, 245760, 507904, 1048335, 2096911, 4194303, 8388607])]) Tryz.f152 = true := by kernel_rfl
theorem fw152 {ct : Ct} (ow : Nat → Bool) (ad : List Adj) {code : Code} (hb : Tryz.f152.body = some code) (hc : CtOk pg ct) {args : List V} {hl hl' : HL} {r : V} (ha : Nat.ble args.length 38 = true) (hlo : ∀ p ∈ hl, 9000 ≤ p.1) (hin : hlIn (idsIn hl) hl') (hr : V.menIn (idsIn hl) r = true) (h : exec ⟨pg, ct, ow, 38, anL [(3, [0, 0, 0, 6, 0, 0, 0, 96, 0, 0, 0, 1536, 3840, 7936, 0, 0, 0, 98304, 245760, 507904, 1048335, 2096911, 4194303, 8388607])], true, none⟩ code ⟨argE args, hOf hl⟩ (PostF pg.prog ad [] r hl')) : FCall pg 152 args hl r hl' := fcall_inF ad hc fol 152 n152 hb rfl e152 rfl (bodyOk_at o152 hb rfl) ha hlo hin hr h
theorem n165 : Tryz.prog.funcs[165]? = some Tryz.f165 := by kernel_rfl
theorem e165 : entB Tryz.prog 165 = true := by kernel_rfl
theorem o165 : bodyOk (anL []) Tryz.f165 = true := by kernel_rfl
theorem w165 {ct : Ct} (ow : Nat → Bool) (ad : List Adj) {code : Code} (hb : Tryz.f165.body = some code) (hc : CtOk pg ct) {args : List V} {r : V} (ha : Nat.ble args.length 18 = true) (hr : r.noId = true) (h : exec ⟨pg, ct, ow, 18, anL [], true, none⟩ code ⟨argE args, hOf []⟩ (PostF pg.prog ad [.tmp 4, .tmp 5] r [])) : PCall pg 165 args r := pcall_inF ad hc fol 165 n165 hb rfl e165 rfl (bodyOk_at o165 hb rfl) ha hr h
theorem n166 : Tryz.prog.funcs[166]? = some Tryz.f166 := by kernel_rfl
theorem e166 : entB Tryz.prog 166 = true := by kernel_rfl
theorem o166 : bodyOk (anL []) Tryz.f166 = true := by kernel_rfl
theorem w166 {ct : Ct} (ow : Nat → Bool) (ad : List Adj) {code : Code} (hb : Tryz.f166.body = some code) (hc : CtOk pg ct) {args : List V} {r : V} (ha : Nat.ble args.length 9 = true) (hr : r.noId = true) (h : exec ⟨pg, ct, ow, 9, anL [], true, none⟩ code ⟨argE args, hOf []⟩ (PostF pg.prog ad [.tmp 4] r [])) : PCall pg 166 args r := pcall_inF ad hc fol 166 n166 hb rfl e166 rfl (bodyOk_at o166 hb rfl) ha hr h
theorem n174 : Tryz.prog.funcs[174]? = some Tryz.f174 := by kernel_rfl
theorem e174 : entB Tryz.prog 174 = true := by kernel_rfl
theorem o174 : bodyOk (anL []) Tryz.f174 = true := by kernel_rfl
theorem w174 {ct : Ct} (ow : Nat → Bool) (ad : List Adj) {code : Code} (hb : Tryz.f174.body = some code) (hc : CtOk pg ct) {args : List V} {r : V} (ha : Nat.ble args.length 21 = true) (hr : r.noId = true) (h : exec ⟨pg, ct, ow, 21, anL [], true, none⟩ code ⟨argE args, hOf []⟩ (PostF pg.prog ad [.tmp 4] r [])) : PCall pg 174 args r := pcall_inF ad hc fol 174 n174 hb rfl e174 rfl (bodyOk_at o174 hb rfl) ha hr h
theorem n175 : Tryz.prog.funcs[175]? = some Tryz.f175 := by kernel_rfl
theorem e175 : entB Tryz.prog 175 = true := by kernel_rfl
theorem o175 : bodyOk (anL []) Tryz.f175 = true := by kernel_rfl
theorem w175 {ct : Ct} (ow : Nat → Bool) (ad : List Adj) {code : Code} (hb : Tryz.f175.body = some code) (hc : CtOk pg ct) {args : List V} {r : V} (ha : Nat.ble args.length 19 = true) (hr : r.noId = true) (h : exec ⟨pg, ct, ow, 19, anL [], true, none⟩ code ⟨argE args, hOf []⟩ (PostF pg.prog ad [.tmp 4] r [])) : PCall pg 175 args r := pcall_inF ad hc fol 175 n175 hb rfl e175 rfl (bodyOk_at o175 hb rfl) ha hr h
end Go.Abs
