import Derived.Test.YtacpgblabfelhaaGreatDoorAbsK2
import Derived.Test.YtacpgblabfelhaaGreatDoorRows
import Derived.Lib.TrailingZeros
import Derived.Lib.ItoaNum
/- facts of this seat's program: its types and functions, by their numbers -/
namespace Go.Abs
open Go Go.Proofs
set_option maxRecDepth 100000
def tabs (w : World) : Prop := Lib.TabIs Tryz.prog w "internal/strconv.uint64pow10" .u64 Lib.pow10Tab ∧ Lib.TabIs Tryz.prog w "math/bits.deBruijn64tab" .u8 (Lib.deBruijn64tab.map fun (n : Nat) => (n : Int))
noncomputable def pg : PG := mkPG Tryz.prog 8 fun w => tabs w ∧ w.ShapedOpen Tryz.prog
theorem tabPow {w : World} (h : pg.ok w) : Lib.TabIs Tryz.prog w "internal/strconv.uint64pow10" .u64 Lib.pow10Tab := by
  obtain ⟨w0, ⟨h1, _⟩, h2⟩ := h
  exact tabIs_same (g := 1) (by kernel_rfl) (by decide) h2 h1.1
theorem tabDb64 {w : World} (h : pg.ok w) : Lib.TabIs Tryz.prog w "math/bits.deBruijn64tab" .u8 (Lib.deBruijn64tab.map fun (n : Nat) => (n : Int)) := by
  obtain ⟨w0, ⟨h1, _⟩, h2⟩ := h
  exact tabIs_same (g := 7) (by kernel_rfl) (by decide) h2 h1.2
theorem tabs_of {w : World} (l : List (String × DataW Unit)) (m0 : ("internal/strconv.uint64pow10", Lib.tabData .u64 Lib.pow10Tab) ∈ l) (m1 : ("math/bits.deBruijn64tab", Lib.tabData .u8 (Lib.deBruijn64tab.map fun (n : Nat) => (n : Int))) ∈ l) (h : laidMet Tryz.prog l w) : tabs w := ⟨laidMet_cells (g := 1) (t := 210) (e := 146) (n := 20) (by kernel_rfl) (by kernel_rfl) (by kernel_rfl) (by kernel_rfl) (by kernel_rfl) (by kernel_rfl) l m0 h, laidMet_cells (g := 7) (t := 242) (e := 5) (n := 64) (by kernel_rfl) (by kernel_rfl) (by kernel_rfl) (by kernel_rfl) (by kernel_rfl) (by kernel_rfl) l m1 h⟩

@[push_cast] theorem pg_prog : pg.prog = Tryz.prog := rfl
theorem fol : Tryz.prog.follows .mixedOrders = true := by kernel_rfl
@[push_cast] theorem t1 : ti Tryz.prog 1 = ⟨.func, 1, 8, some (.con .nilFunc)⟩ := by kernel_rfl
@[push_cast] theorem t2 : ti Tryz.prog 2 = ⟨(.int .i64), 1, 8, some (.int .i64 0)⟩ := by kernel_rfl
@[push_cast] theorem t3 : ti Tryz.prog 3 = ⟨(.int .i64), 1, 8, some (.int .i64 0)⟩ := by kernel_rfl
@[push_cast] theorem t4 : ti Tryz.prog 4 = ⟨.bool, 1, 1, some (.bool false)⟩ := by kernel_rfl
@[push_cast] theorem t5 : ti Tryz.prog 5 = ⟨(.int .u8), 1, 1, some (.int .u8 0)⟩ := by kernel_rfl
@[push_cast] theorem t6 : ti Tryz.prog 6 = ⟨(.int .u8), 1, 1, some (.int .u8 0)⟩ := by kernel_rfl
@[push_cast] theorem eq7 : EqOk Tryz.prog 7 = True := eq_true (eqOk_of (by kernel_rfl))
@[push_cast] theorem t7 : ti Tryz.prog 7 = ⟨(.struct [(0, 2), (1, 3), (2, 4), (3, 6)]), 4, 24, some (.agg [(.int .i64 0), (.int .i64 0), (.bool false), (.int .u8 0)])⟩ := by kernel_rfl
@[push_cast] theorem eq8 : EqOk Tryz.prog 8 = True := eq_true (eqOk_of (by kernel_rfl))
@[push_cast] theorem t8 : ti Tryz.prog 8 = ⟨(.struct [(0, 2), (1, 3), (2, 4), (3, 6)]), 4, 24, some (.agg [(.int .i64 0), (.int .i64 0), (.bool false), (.int .u8 0)])⟩ := by kernel_rfl
@[push_cast] theorem t9 : ti Tryz.prog 9 = ⟨.str, 1, 16, some (.str [])⟩ := by kernel_rfl
@[push_cast] theorem t10 : ti Tryz.prog 10 = ⟨.str, 1, 16, some (.str [])⟩ := by kernel_rfl
@[push_cast] theorem t11 : ti Tryz.prog 11 = ⟨.str, 1, 16, some (.str [])⟩ := by kernel_rfl
@[push_cast] theorem t12 : ti Tryz.prog 12 = ⟨(.int .u64), 1, 8, some (.int .u64 0)⟩ := by kernel_rfl
@[push_cast] theorem t13 : ti Tryz.prog 13 = ⟨(.struct [(0, 9), (1, 12)]), 2, 24, some (.agg [(.str []), (.int .u64 0)])⟩ := by kernel_rfl
@[push_cast] theorem t14 : ti Tryz.prog 14 = ⟨(.struct [(0, 9), (1, 12)]), 2, 24, some (.agg [(.str []), (.int .u64 0)])⟩ := by kernel_rfl
@[push_cast] theorem t15 : ti Tryz.prog 15 = ⟨(.ptr 248), 1, 8, some (.con (.pointer none))⟩ := by kernel_rfl
@[push_cast] theorem t16 : ti Tryz.prog 16 = ⟨(.ptr 251), 1, 8, some (.con (.pointer none))⟩ := by kernel_rfl
@[push_cast] theorem t17 : ti Tryz.prog 17 = ⟨(.ptr 258), 1, 8, some (.con (.pointer none))⟩ := by kernel_rfl
@[push_cast] theorem t18 : ti Tryz.prog 18 = ⟨(.struct [(0, 17)]), 1, 8, some (.agg [(.con (.pointer none))])⟩ := by kernel_rfl
@[push_cast] theorem t19 : ti Tryz.prog 19 = ⟨(.struct [(0, 17)]), 1, 8, some (.agg [(.con (.pointer none))])⟩ := by kernel_rfl
@[push_cast] theorem t20 : ti Tryz.prog 20 = ⟨.iface, 1, 16, some (.con .nilIface)⟩ := by kernel_rfl
@[push_cast] theorem t21 : ti Tryz.prog 21 = ⟨(.int .i32), 1, 4, some (.int .i32 0)⟩ := by kernel_rfl
@[push_cast] theorem t22 : ti Tryz.prog 22 = ⟨(.slice 41), 1, 24, some .nilsl⟩ := by kernel_rfl
@[push_cast] theorem t23 : ti Tryz.prog 23 = ⟨(.slice 9), 1, 24, some .nilsl⟩ := by kernel_rfl
@[push_cast] theorem t24 : ti Tryz.prog 24 = ⟨(.slice 22), 1, 24, some .nilsl⟩ := by kernel_rfl
@[push_cast] theorem t25 : ti Tryz.prog 25 = ⟨(.int .i64), 1, 8, some (.int .i64 0)⟩ := by kernel_rfl
@[push_cast] theorem t27 : ti Tryz.prog 27 = ⟨.func, 1, 8, some (.con .nilFunc)⟩ := by kernel_rfl
@[push_cast] theorem t29 : ti Tryz.prog 29 = ⟨.func, 1, 8, some (.con .nilFunc)⟩ := by kernel_rfl
@[push_cast] theorem t30 : ti Tryz.prog 30 = ⟨.func, 1, 8, some (.con .nilFunc)⟩ := by kernel_rfl
@[push_cast] theorem t31 : ti Tryz.prog 31 = ⟨.func, 1, 8, some (.con .nilFunc)⟩ := by kernel_rfl
@[push_cast] theorem t32 : ti Tryz.prog 32 = ⟨.func, 1, 8, some (.con .nilFunc)⟩ := by kernel_rfl
@[push_cast] theorem t33 : ti Tryz.prog 33 = ⟨.func, 1, 8, some (.con .nilFunc)⟩ := by kernel_rfl
@[push_cast] theorem t34 : ti Tryz.prog 34 = ⟨.func, 1, 8, some (.con .nilFunc)⟩ := by kernel_rfl
@[push_cast] theorem t35 : ti Tryz.prog 35 = ⟨.func, 1, 8, some (.con .nilFunc)⟩ := by kernel_rfl
@[push_cast] theorem t36 : ti Tryz.prog 36 = ⟨(.slice 5), 1, 24, some .nilsl⟩ := by kernel_rfl
@[push_cast] theorem t38 : ti Tryz.prog 38 = ⟨.func, 1, 8, some (.con .nilFunc)⟩ := by kernel_rfl
@[push_cast] theorem t39 : ti Tryz.prog 39 = ⟨(.slice 103), 1, 24, some .nilsl⟩ := by kernel_rfl
@[push_cast] theorem t40 : ti Tryz.prog 40 = ⟨(.struct [(0, 3), (1, 9), (2, 9), (3, 3), (4, 9), (5, 39), (6, 36)]), 7, 112, some (.agg [(.int .i64 0), (.str []), (.str []), (.int .i64 0), (.str []), .nilsl, .nilsl])⟩ := by kernel_rfl
@[push_cast] theorem t41 : ti Tryz.prog 41 = ⟨(.struct [(0, 3), (1, 9), (2, 9), (3, 3), (4, 9), (5, 39), (6, 36)]), 7, 112, some (.agg [(.int .i64 0), (.str []), (.str []), (.int .i64 0), (.str []), .nilsl, .nilsl])⟩ := by kernel_rfl
@[push_cast] theorem t42 : ti Tryz.prog 42 = ⟨.func, 1, 8, some (.con .nilFunc)⟩ := by kernel_rfl
@[push_cast] theorem t43 : ti Tryz.prog 43 = ⟨.func, 1, 8, some (.con .nilFunc)⟩ := by kernel_rfl
@[push_cast] theorem t44 : ti Tryz.prog 44 = ⟨.func, 1, 8, some (.con .nilFunc)⟩ := by kernel_rfl
@[push_cast] theorem t45 : ti Tryz.prog 45 = ⟨.func, 1, 8, some (.con .nilFunc)⟩ := by kernel_rfl
@[push_cast] theorem t46 : ti Tryz.prog 46 = ⟨.func, 1, 8, some (.con .nilFunc)⟩ := by kernel_rfl
@[push_cast] theorem t48 : ti Tryz.prog 48 = ⟨.func, 1, 8, some (.con .nilFunc)⟩ := by kernel_rfl
@[push_cast] theorem t49 : ti Tryz.prog 49 = ⟨.func, 1, 8, some (.con .nilFunc)⟩ := by kernel_rfl
@[push_cast] theorem t50 : ti Tryz.prog 50 = ⟨.func, 1, 8, some (.con .nilFunc)⟩ := by kernel_rfl
@[push_cast] theorem t51 : ti Tryz.prog 51 = ⟨.func, 1, 8, some (.con .nilFunc)⟩ := by kernel_rfl
@[push_cast] theorem t52 : ti Tryz.prog 52 = ⟨.func, 1, 8, some (.con .nilFunc)⟩ := by kernel_rfl
@[push_cast] theorem t53 : ti Tryz.prog 53 = ⟨.func, 1, 8, some (.con .nilFunc)⟩ := by kernel_rfl
@[push_cast] theorem t54 : ti Tryz.prog 54 = ⟨.func, 1, 8, some (.con .nilFunc)⟩ := by kernel_rfl
@[push_cast] theorem t56 : ti Tryz.prog 56 = ⟨.func, 1, 8, some (.con .nilFunc)⟩ := by kernel_rfl
@[push_cast] theorem t57 : ti Tryz.prog 57 = ⟨.func, 1, 8, some (.con .nilFunc)⟩ := by kernel_rfl
@[push_cast] theorem t58 : ti Tryz.prog 58 = ⟨.func, 1, 8, some (.con .nilFunc)⟩ := by kernel_rfl
@[push_cast] theorem t60 : ti Tryz.prog 60 = ⟨.func, 1, 8, some (.con .nilFunc)⟩ := by kernel_rfl
@[push_cast] theorem t61 : ti Tryz.prog 61 = ⟨.func, 1, 8, some (.con .nilFunc)⟩ := by kernel_rfl
@[push_cast] theorem t62 : ti Tryz.prog 62 = ⟨(.slice 68), 1, 24, some .nilsl⟩ := by kernel_rfl
@[push_cast] theorem t64 : ti Tryz.prog 64 = ⟨.func, 1, 8, some (.con .nilFunc)⟩ := by kernel_rfl
@[push_cast] theorem eq65 : EqOk Tryz.prog 65 = True := eq_true (eqOk_of (by kernel_rfl))
@[push_cast] theorem t65 : ti Tryz.prog 65 = ⟨(.struct [(0, 3), (1, 3)]), 2, 16, some (.agg [(.int .i64 0), (.int .i64 0)])⟩ := by kernel_rfl
@[push_cast] theorem eq66 : EqOk Tryz.prog 66 = True := eq_true (eqOk_of (by kernel_rfl))
@[push_cast] theorem t66 : ti Tryz.prog 66 = ⟨(.struct [(0, 3), (1, 3)]), 2, 16, some (.agg [(.int .i64 0), (.int .i64 0)])⟩ := by kernel_rfl
@[push_cast] theorem t67 : ti Tryz.prog 67 = ⟨(.struct [(0, 9), (1, 66)]), 3, 32, some (.agg [(.str []), (.int .i64 0), (.int .i64 0)])⟩ := by kernel_rfl
@[push_cast] theorem t68 : ti Tryz.prog 68 = ⟨(.struct [(0, 9), (1, 66)]), 3, 32, some (.agg [(.str []), (.int .i64 0), (.int .i64 0)])⟩ := by kernel_rfl
@[push_cast] theorem t69 : ti Tryz.prog 69 = ⟨.func, 1, 8, some (.con .nilFunc)⟩ := by kernel_rfl
@[push_cast] theorem t70 : ti Tryz.prog 70 = ⟨(.slice 75), 1, 24, some .nilsl⟩ := by kernel_rfl
@[push_cast] theorem t72 : ti Tryz.prog 72 = ⟨.func, 1, 8, some (.con .nilFunc)⟩ := by kernel_rfl
@[push_cast] theorem t73 : ti Tryz.prog 73 = ⟨.func, 1, 8, some (.con .nilFunc)⟩ := by kernel_rfl
@[push_cast] theorem t74 : ti Tryz.prog 74 = ⟨(.struct [(0, 66)]), 2, 16, some (.agg [(.int .i64 0), (.int .i64 0)])⟩ := by kernel_rfl
@[push_cast] theorem t75 : ti Tryz.prog 75 = ⟨(.struct [(0, 66)]), 2, 16, some (.agg [(.int .i64 0), (.int .i64 0)])⟩ := by kernel_rfl
@[push_cast] theorem t76 : ti Tryz.prog 76 = ⟨.func, 1, 8, some (.con .nilFunc)⟩ := by kernel_rfl
@[push_cast] theorem t77 : ti Tryz.prog 77 = ⟨.func, 1, 8, some (.con .nilFunc)⟩ := by kernel_rfl
@[push_cast] theorem t78 : ti Tryz.prog 78 = ⟨.func, 1, 8, some (.con .nilFunc)⟩ := by kernel_rfl
@[push_cast] theorem t79 : ti Tryz.prog 79 = ⟨.func, 1, 8, some (.con .nilFunc)⟩ := by kernel_rfl
@[push_cast] theorem t80 : ti Tryz.prog 80 = ⟨.func, 1, 8, some (.con .nilFunc)⟩ := by kernel_rfl
@[push_cast] theorem t81 : ti Tryz.prog 81 = ⟨.func, 1, 8, some (.con .nilFunc)⟩ := by kernel_rfl
@[push_cast] theorem t82 : ti Tryz.prog 82 = ⟨.func, 1, 8, some (.con .nilFunc)⟩ := by kernel_rfl
@[push_cast] theorem t83 : ti Tryz.prog 83 = ⟨.func, 1, 8, some (.con .nilFunc)⟩ := by kernel_rfl
@[push_cast] theorem t84 : ti Tryz.prog 84 = ⟨.func, 1, 8, some (.con .nilFunc)⟩ := by kernel_rfl
@[push_cast] theorem t85 : ti Tryz.prog 85 = ⟨(.map 9 4), 1, 8, some (.con (.map none))⟩ := by kernel_rfl
@[push_cast] theorem t86 : ti Tryz.prog 86 = ⟨.func, 1, 8, some (.con .nilFunc)⟩ := by kernel_rfl
@[push_cast] theorem t88 : ti Tryz.prog 88 = ⟨.func, 1, 8, some (.con .nilFunc)⟩ := by kernel_rfl
@[push_cast] theorem t89 : ti Tryz.prog 89 = ⟨.func, 1, 8, some (.con .nilFunc)⟩ := by kernel_rfl
@[push_cast] theorem t90 : ti Tryz.prog 90 = ⟨.func, 1, 8, some (.con .nilFunc)⟩ := by kernel_rfl
@[push_cast] theorem t91 : ti Tryz.prog 91 = ⟨(.slice 4), 1, 24, some .nilsl⟩ := by kernel_rfl
@[push_cast] theorem t93 : ti Tryz.prog 93 = ⟨.func, 1, 8, some (.con .nilFunc)⟩ := by kernel_rfl
@[push_cast] theorem t94 : ti Tryz.prog 94 = ⟨(.map 97 9), 1, 8, some (.con (.map none))⟩ := by kernel_rfl
@[push_cast] theorem t95 : ti Tryz.prog 95 = ⟨.func, 1, 8, some (.con .nilFunc)⟩ := by kernel_rfl
@[push_cast] theorem eq96 : EqOk Tryz.prog 96 = True := eq_true (eqOk_of (by kernel_rfl))
@[push_cast] theorem t96 : ti Tryz.prog 96 = ⟨(.struct [(0, 9), (1, 9)]), 2, 32, some (.agg [(.str []), (.str [])])⟩ := by kernel_rfl
@[push_cast] theorem eq97 : EqOk Tryz.prog 97 = True := eq_true (eqOk_of (by kernel_rfl))
@[push_cast] theorem t97 : ti Tryz.prog 97 = ⟨(.struct [(0, 9), (1, 9)]), 2, 32, some (.agg [(.str []), (.str [])])⟩ := by kernel_rfl
@[push_cast] theorem t99 : ti Tryz.prog 99 = ⟨.func, 1, 8, some (.con .nilFunc)⟩ := by kernel_rfl
@[push_cast] theorem t100 : ti Tryz.prog 100 = ⟨.func, 1, 8, some (.con .nilFunc)⟩ := by kernel_rfl
@[push_cast] theorem t101 : ti Tryz.prog 101 = ⟨.func, 1, 8, some (.con .nilFunc)⟩ := by kernel_rfl
@[push_cast] theorem eq102 : EqOk Tryz.prog 102 = True := eq_true (eqOk_of (by kernel_rfl))
@[push_cast] theorem t102 : ti Tryz.prog 102 = ⟨(.struct [(0, 9), (1, 9)]), 2, 32, some (.agg [(.str []), (.str [])])⟩ := by kernel_rfl
@[push_cast] theorem eq103 : EqOk Tryz.prog 103 = True := eq_true (eqOk_of (by kernel_rfl))
@[push_cast] theorem t103 : ti Tryz.prog 103 = ⟨(.struct [(0, 9), (1, 9)]), 2, 32, some (.agg [(.str []), (.str [])])⟩ := by kernel_rfl
@[push_cast] theorem t104 : ti Tryz.prog 104 = ⟨.func, 1, 8, some (.con .nilFunc)⟩ := by kernel_rfl
@[push_cast] theorem t105 : ti Tryz.prog 105 = ⟨.func, 1, 8, some (.con .nilFunc)⟩ := by kernel_rfl
@[push_cast] theorem t106 : ti Tryz.prog 106 = ⟨.func, 1, 8, some (.con .nilFunc)⟩ := by kernel_rfl
@[push_cast] theorem t107 : ti Tryz.prog 107 = ⟨.func, 1, 8, some (.con .nilFunc)⟩ := by kernel_rfl
@[push_cast] theorem t108 : ti Tryz.prog 108 = ⟨.func, 1, 8, some (.con .nilFunc)⟩ := by kernel_rfl
@[push_cast] theorem t109 : ti Tryz.prog 109 = ⟨.func, 1, 8, some (.con .nilFunc)⟩ := by kernel_rfl
@[push_cast] theorem t110 : ti Tryz.prog 110 = ⟨.func, 1, 8, some (.con .nilFunc)⟩ := by kernel_rfl
@[push_cast] theorem t111 : ti Tryz.prog 111 = ⟨(.slice 36), 1, 24, some .nilsl⟩ := by kernel_rfl
@[push_cast] theorem t112 : ti Tryz.prog 112 = ⟨.func, 1, 8, some (.con .nilFunc)⟩ := by kernel_rfl
@[push_cast] theorem t114 : ti Tryz.prog 114 = ⟨.func, 1, 8, some (.con .nilFunc)⟩ := by kernel_rfl
@[push_cast] theorem t115 : ti Tryz.prog 115 = ⟨.func, 1, 8, some (.con .nilFunc)⟩ := by kernel_rfl
@[push_cast] theorem t116 : ti Tryz.prog 116 = ⟨.func, 1, 8, some (.con .nilFunc)⟩ := by kernel_rfl
@[push_cast] theorem t117 : ti Tryz.prog 117 = ⟨.func, 1, 8, some (.con .nilFunc)⟩ := by kernel_rfl
@[push_cast] theorem t118 : ti Tryz.prog 118 = ⟨.func, 1, 8, some (.con .nilFunc)⟩ := by kernel_rfl
@[push_cast] theorem t119 : ti Tryz.prog 119 = ⟨.func, 1, 8, some (.con .nilFunc)⟩ := by kernel_rfl
@[push_cast] theorem t120 : ti Tryz.prog 120 = ⟨.func, 1, 8, some (.con .nilFunc)⟩ := by kernel_rfl
@[push_cast] theorem t121 : ti Tryz.prog 121 = ⟨.func, 1, 8, some (.con .nilFunc)⟩ := by kernel_rfl
@[push_cast] theorem t122 : ti Tryz.prog 122 = ⟨.func, 1, 8, some (.con .nilFunc)⟩ := by kernel_rfl
@[push_cast] theorem t123 : ti Tryz.prog 123 = ⟨.func, 1, 8, some (.con .nilFunc)⟩ := by kernel_rfl
@[push_cast] theorem t124 : ti Tryz.prog 124 = ⟨.func, 1, 8, some (.con .nilFunc)⟩ := by kernel_rfl
@[push_cast] theorem t125 : ti Tryz.prog 125 = ⟨.func, 1, 8, some (.con .nilFunc)⟩ := by kernel_rfl
@[push_cast] theorem t126 : ti Tryz.prog 126 = ⟨.func, 1, 8, some (.con .nilFunc)⟩ := by kernel_rfl
@[push_cast] theorem t127 : ti Tryz.prog 127 = ⟨.func, 1, 8, some (.con .nilFunc)⟩ := by kernel_rfl
@[push_cast] theorem t128 : ti Tryz.prog 128 = ⟨.func, 1, 8, some (.con .nilFunc)⟩ := by kernel_rfl
@[push_cast] theorem t129 : ti Tryz.prog 129 = ⟨.func, 1, 8, some (.con .nilFunc)⟩ := by kernel_rfl
@[push_cast] theorem t130 : ti Tryz.prog 130 = ⟨.func, 1, 8, some (.con .nilFunc)⟩ := by kernel_rfl
@[push_cast] theorem t131 : ti Tryz.prog 131 = ⟨.func, 1, 8, some (.con .nilFunc)⟩ := by kernel_rfl
@[push_cast] theorem t132 : ti Tryz.prog 132 = ⟨(.map 3 22), 1, 8, some (.con (.map none))⟩ := by kernel_rfl
@[push_cast] theorem t133 : ti Tryz.prog 133 = ⟨.func, 1, 8, some (.con .nilFunc)⟩ := by kernel_rfl
@[push_cast] theorem t134 : ti Tryz.prog 134 = ⟨(.ptr 136), 1, 8, some (.con (.pointer none))⟩ := by kernel_rfl
@[push_cast] theorem t135 : ti Tryz.prog 135 = ⟨(.struct [(0, 36), (1, 3), (2, 41), (9, 3), (10, 9)]), 11, 168, some (.agg [.nilsl, (.int .i64 0), (.int .i64 0), (.str []), (.str []), (.int .i64 0), (.str []), .nilsl, .nilsl, (.int .i64 0), (.str [])])⟩ := by kernel_rfl
@[push_cast] theorem t136 : ti Tryz.prog 136 = ⟨(.struct [(0, 36), (1, 3), (2, 41), (9, 3), (10, 9)]), 11, 168, some (.agg [.nilsl, (.int .i64 0), (.int .i64 0), (.str []), (.str []), (.int .i64 0), (.str []), .nilsl, .nilsl, (.int .i64 0), (.str [])])⟩ := by kernel_rfl
@[push_cast] theorem t137 : ti Tryz.prog 137 = ⟨(.ptr 139), 1, 8, some (.con (.pointer none))⟩ := by kernel_rfl
@[push_cast] theorem t138 : ti Tryz.prog 138 = ⟨(.struct [(0, 36), (1, 3), (2, 3)]), 3, 40, some (.agg [.nilsl, (.int .i64 0), (.int .i64 0)])⟩ := by kernel_rfl
@[push_cast] theorem t139 : ti Tryz.prog 139 = ⟨(.struct [(0, 36), (1, 3), (2, 3)]), 3, 40, some (.agg [.nilsl, (.int .i64 0), (.int .i64 0)])⟩ := by kernel_rfl
@[push_cast] theorem t141 : ti Tryz.prog 141 = ⟨.func, 1, 8, some (.con .nilFunc)⟩ := by kernel_rfl
@[push_cast] theorem t142 : ti Tryz.prog 142 = ⟨.func, 1, 8, some (.con .nilFunc)⟩ := by kernel_rfl
@[push_cast] theorem t143 : ti Tryz.prog 143 = ⟨.func, 1, 8, some (.con .nilFunc)⟩ := by kernel_rfl
@[push_cast] theorem t144 : ti Tryz.prog 144 = ⟨(.int .u64), 1, 8, some (.int .u64 0)⟩ := by kernel_rfl
@[push_cast] theorem t145 : ti Tryz.prog 145 = ⟨.func, 1, 8, some (.con .nilFunc)⟩ := by kernel_rfl
@[push_cast] theorem t146 : ti Tryz.prog 146 = ⟨(.int .u64), 1, 8, some (.int .u64 0)⟩ := by kernel_rfl
@[push_cast] theorem t147 : ti Tryz.prog 147 = ⟨.func, 1, 8, some (.con .nilFunc)⟩ := by kernel_rfl
@[push_cast] theorem t148 : ti Tryz.prog 148 = ⟨.func, 1, 8, some (.con .nilFunc)⟩ := by kernel_rfl
@[push_cast] theorem t149 : ti Tryz.prog 149 = ⟨(.arr 256 4), 256, 256, some (.agg [(.bool false), (.bool false), (.bool false), (.bool false), (.bool false), (.bool false), (.bool false), (.bool false), (.bool false), (.bool false), (.bool false), (.bool false), (.bool false), (.bool false), (.bool false), (.bool false), (.bool false), (.bool false), (.bool false), (.bool false), (.bool false), (.bool false), (.bool false), (.bool false), (.bool false), (.bool false), (.bool false), (.bool false), (.bool false), (.bool false), (.bool false), (.bool false), (.bool false), (.bool false), (.bool false), (.bool false), (.bool false), (.bool false), (.bool false), (.bool false), (.bool false), (.bool false), (.bool false), (.bool false), (.bool false), (.bool false), (.bool false), (.bool false), (.bool false), (.bool false), (.bool false), (.bool false), (.bool false), (.bool false), (.bool false), (.bool false), (.bool false), (.bool false), (.bool false), (.bool false), (.bool false), (.bool false), (.bool false), (.bool false), (.bool false), (.bool false), (.bool false), (.bool false), (.bool false), (.bool false), (.bool false), (.bool false), (.bool false), (.bool false), (.bool false), (.bool false), (.bool false), (.bool false), (.bool false), (.bool false), (.bool false), (.bool false), (.bool false), (.bool false), (.bool false), (.bool false), (.bool false), (.bool false), (.bool false), (.bool false), (.bool false), (.bool false), (.bool false), (.bool false), (.bool false), (.bool false), (.bool false), (.bool false), (.bool false), (.bool false), (.bool false), (.bool false), (.bool false), (.bool false), (.bool false), (.bool false), (.bool false), (.bool false), (.bool false), (.bool false), (.bool false), (.bool false), (.bool false), (.bool false), (.bool false), (.bool false), (.bool false), (.bool false), (.bool false), (.bool false), (.bool false), (.bool false), (.bool false), (.bool false), (.bool false), (.bool false), (.bool false), (.bool false), (.bool false), (.bool false), (.bool false), (.bool false), (.bool false), (.bool false), (.bool false), (.bool false), (.bool false), (.bool false), (.bool false), (.bool false), (.bool false), (.bool false), (.bool false), (.bool false), (.bool false), (.bool false), (.bool false), (.bool false), (.bool false), (.bool false), (.bool false), (.bool false), (.bool false), (.bool false), (.bool false), (.bool false), (.bool false), (.bool false), (.bool false), (.bool false), (.bool false), (.bool false), (.bool false), (.bool false), (.bool false), (.bool false), (.bool false), (.bool false), (.bool false), (.bool false), (.bool false), (.bool false), (.bool false), (.bool false), (.bool false), (.bool false), (.bool false), (.bool false), (.bool false), (.bool false), (.bool false), (.bool false), (.bool false), (.bool false), (.bool false), (.bool false), (.bool false), (.bool false), (.bool false), (.bool false), (.bool false), (.bool false), (.bool false), (.bool false), (.bool false), (.bool false), (.bool false), (.bool false), (.bool false), (.bool false), (.bool false), (.bool false), (.bool false), (.bool false), (.bool false), (.bool false), (.bool false), (.bool false), (.bool false), (.bool false), (.bool false), (.bool false), (.bool false), (.bool false), (.bool false), (.bool false), (.bool false), (.bool false), (.bool false), (.bool false), (.bool false), (.bool false), (.bool false), (.bool false), (.bool false), (.bool false), (.bool false), (.bool false), (.bool false), (.bool false), (.bool false), (.bool false), (.bool false), (.bool false), (.bool false), (.bool false), (.bool false), (.bool false), (.bool false), (.bool false), (.bool false), (.bool false), (.bool false), (.bool false), (.bool false), (.bool false), (.bool false), (.bool false), (.bool false), (.bool false), (.bool false), (.bool false), (.bool false), (.bool false), (.bool false), (.bool false)])⟩ := by kernel_rfl
@[push_cast] theorem t150 : ti Tryz.prog 150 = ⟨(.arr 256 4), 256, 256, some (.agg [(.bool false), (.bool false), (.bool false), (.bool false), (.bool false), (.bool false), (.bool false), (.bool false), (.bool false), (.bool false), (.bool false), (.bool false), (.bool false), (.bool false), (.bool false), (.bool false), (.bool false), (.bool false), (.bool false), (.bool false), (.bool false), (.bool false), (.bool false), (.bool false), (.bool false), (.bool false), (.bool false), (.bool false), (.bool false), (.bool false), (.bool false), (.bool false), (.bool false), (.bool false), (.bool false), (.bool false), (.bool false), (.bool false), (.bool false), (.bool false), (.bool false), (.bool false), (.bool false), (.bool false), (.bool false), (.bool false), (.bool false), (.bool false), (.bool false), (.bool false), (.bool false), (.bool false), (.bool false), (.bool false), (.bool false), (.bool false), (.bool false), (.bool false), (.bool false), (.bool false), (.bool false), (.bool false), (.bool false), (.bool false), (.bool false), (.bool false), (.bool false), (.bool false), (.bool false), (.bool false), (.bool false), (.bool false), (.bool false), (.bool false), (.bool false), (.bool false), (.bool false), (.bool false), (.bool false), (.bool false), (.bool false), (.bool false), (.bool false), (.bool false), (.bool false), (.bool false), (.bool false), (.bool false), (.bool false), (.bool false), (.bool false), (.bool false), (.bool false), (.bool false), (.bool false), (.bool false), (.bool false), (.bool false), (.bool false), (.bool false), (.bool false), (.bool false), (.bool false), (.bool false), (.bool false), (.bool false), (.bool false), (.bool false), (.bool false), (.bool false), (.bool false), (.bool false), (.bool false), (.bool false), (.bool false), (.bool false), (.bool false), (.bool false), (.bool false), (.bool false), (.bool false), (.bool false), (.bool false), (.bool false), (.bool false), (.bool false), (.bool false), (.bool false), (.bool false), (.bool false), (.bool false), (.bool false), (.bool false), (.bool false), (.bool false), (.bool false), (.bool false), (.bool false), (.bool false), (.bool false), (.bool false), (.bool false), (.bool false), (.bool false), (.bool false), (.bool false), (.bool false), (.bool false), (.bool false), (.bool false), (.bool false), (.bool false), (.bool false), (.bool false), (.bool false), (.bool false), (.bool false), (.bool false), (.bool false), (.bool false), (.bool false), (.bool false), (.bool false), (.bool false), (.bool false), (.bool false), (.bool false), (.bool false), (.bool false), (.bool false), (.bool false), (.bool false), (.bool false), (.bool false), (.bool false), (.bool false), (.bool false), (.bool false), (.bool false), (.bool false), (.bool false), (.bool false), (.bool false), (.bool false), (.bool false), (.bool false), (.bool false), (.bool false), (.bool false), (.bool false), (.bool false), (.bool false), (.bool false), (.bool false), (.bool false), (.bool false), (.bool false), (.bool false), (.bool false), (.bool false), (.bool false), (.bool false), (.bool false), (.bool false), (.bool false), (.bool false), (.bool false), (.bool false), (.bool false), (.bool false), (.bool false), (.bool false), (.bool false), (.bool false), (.bool false), (.bool false), (.bool false), (.bool false), (.bool false), (.bool false), (.bool false), (.bool false), (.bool false), (.bool false), (.bool false), (.bool false), (.bool false), (.bool false), (.bool false), (.bool false), (.bool false), (.bool false), (.bool false), (.bool false), (.bool false), (.bool false), (.bool false), (.bool false), (.bool false), (.bool false), (.bool false), (.bool false), (.bool false), (.bool false), (.bool false), (.bool false), (.bool false), (.bool false), (.bool false), (.bool false), (.bool false), (.bool false), (.bool false), (.bool false), (.bool false), (.bool false)])⟩ := by kernel_rfl
@[push_cast] theorem t152 : ti Tryz.prog 152 = ⟨.func, 1, 8, some (.con .nilFunc)⟩ := by kernel_rfl
@[push_cast] theorem t153 : ti Tryz.prog 153 = ⟨.func, 1, 8, some (.con .nilFunc)⟩ := by kernel_rfl
@[push_cast] theorem t154 : ti Tryz.prog 154 = ⟨(.ptr 150), 1, 8, some (.con (.pointer none))⟩ := by kernel_rfl
@[push_cast] theorem t155 : ti Tryz.prog 155 = ⟨.func, 1, 8, some (.con .nilFunc)⟩ := by kernel_rfl
@[push_cast] theorem t156 : ti Tryz.prog 156 = ⟨.iface, 1, 16, some (.con .nilIface)⟩ := by kernel_rfl
@[push_cast] theorem t157 : ti Tryz.prog 157 = ⟨.iface, 1, 16, some (.con .nilIface)⟩ := by kernel_rfl
@[push_cast] theorem t159 : ti Tryz.prog 159 = ⟨.func, 1, 8, some (.con .nilFunc)⟩ := by kernel_rfl
@[push_cast] theorem t160 : ti Tryz.prog 160 = ⟨.func, 1, 8, some (.con .nilFunc)⟩ := by kernel_rfl
@[push_cast] theorem t162 : ti Tryz.prog 162 = ⟨.func, 1, 8, some (.con .nilFunc)⟩ := by kernel_rfl
@[push_cast] theorem t163 : ti Tryz.prog 163 = ⟨(.ptr 9), 1, 8, some (.con (.pointer none))⟩ := by kernel_rfl
@[push_cast] theorem t164 : ti Tryz.prog 164 = ⟨.func, 1, 8, some (.con .nilFunc)⟩ := by kernel_rfl
@[push_cast] theorem t165 : ti Tryz.prog 165 = ⟨.func, 1, 8, some (.con .nilFunc)⟩ := by kernel_rfl
@[push_cast] theorem t167 : ti Tryz.prog 167 = ⟨.func, 1, 8, some (.con .nilFunc)⟩ := by kernel_rfl
@[push_cast] theorem t168 : ti Tryz.prog 168 = ⟨.func, 1, 8, some (.con .nilFunc)⟩ := by kernel_rfl
@[push_cast] theorem t169 : ti Tryz.prog 169 = ⟨.func, 1, 8, some (.con .nilFunc)⟩ := by kernel_rfl
@[push_cast] theorem t170 : ti Tryz.prog 170 = ⟨.func, 1, 8, some (.con .nilFunc)⟩ := by kernel_rfl
@[push_cast] theorem t171 : ti Tryz.prog 171 = ⟨(.int .u32), 1, 4, some (.int .u32 0)⟩ := by kernel_rfl
@[push_cast] theorem t173 : ti Tryz.prog 173 = ⟨.func, 1, 8, some (.con .nilFunc)⟩ := by kernel_rfl
@[push_cast] theorem eq174 : EqOk Tryz.prog 174 = True := eq_true (eqOk_of (by kernel_rfl))
@[push_cast] theorem t174 : ti Tryz.prog 174 = ⟨(.struct [(0, 3), (1, 3), (2, 3), (3, 3), (4, 3), (5, 3)]), 6, 48, some (.agg [(.int .i64 0), (.int .i64 0), (.int .i64 0), (.int .i64 0), (.int .i64 0), (.int .i64 0)])⟩ := by kernel_rfl
@[push_cast] theorem eq175 : EqOk Tryz.prog 175 = True := eq_true (eqOk_of (by kernel_rfl))
@[push_cast] theorem t175 : ti Tryz.prog 175 = ⟨(.struct [(0, 3), (1, 3), (2, 3), (3, 3), (4, 3), (5, 3)]), 6, 48, some (.agg [(.int .i64 0), (.int .i64 0), (.int .i64 0), (.int .i64 0), (.int .i64 0), (.int .i64 0)])⟩ := by kernel_rfl
@[push_cast] theorem t176 : ti Tryz.prog 176 = ⟨.func, 1, 8, some (.con .nilFunc)⟩ := by kernel_rfl
@[push_cast] theorem t177 : ti Tryz.prog 177 = ⟨.func, 1, 8, some (.con .nilFunc)⟩ := by kernel_rfl
@[push_cast] theorem t178 : ti Tryz.prog 178 = ⟨.func, 1, 8, some (.con .nilFunc)⟩ := by kernel_rfl
@[push_cast] theorem t179 : ti Tryz.prog 179 = ⟨.func, 1, 8, some (.con .nilFunc)⟩ := by kernel_rfl
@[push_cast] theorem t181 : ti Tryz.prog 181 = ⟨.func, 1, 8, some (.con .nilFunc)⟩ := by kernel_rfl
@[push_cast] theorem t182 : ti Tryz.prog 182 = ⟨.func, 1, 8, some (.con .nilFunc)⟩ := by kernel_rfl
@[push_cast] theorem t183 : ti Tryz.prog 183 = ⟨.func, 1, 8, some (.con .nilFunc)⟩ := by kernel_rfl
@[push_cast] theorem t184 : ti Tryz.prog 184 = ⟨.func, 1, 8, some (.con .nilFunc)⟩ := by kernel_rfl
@[push_cast] theorem t185 : ti Tryz.prog 185 = ⟨(.arr 24 5), 24, 24, some (.agg [(.int .u8 0), (.int .u8 0), (.int .u8 0), (.int .u8 0), (.int .u8 0), (.int .u8 0), (.int .u8 0), (.int .u8 0), (.int .u8 0), (.int .u8 0), (.int .u8 0), (.int .u8 0), (.int .u8 0), (.int .u8 0), (.int .u8 0), (.int .u8 0), (.int .u8 0), (.int .u8 0), (.int .u8 0), (.int .u8 0), (.int .u8 0), (.int .u8 0), (.int .u8 0), (.int .u8 0)])⟩ := by kernel_rfl
@[push_cast] theorem t186 : ti Tryz.prog 186 = ⟨.func, 1, 8, some (.con .nilFunc)⟩ := by kernel_rfl
@[push_cast] theorem t187 : ti Tryz.prog 187 = ⟨.func, 1, 8, some (.con .nilFunc)⟩ := by kernel_rfl
@[push_cast] theorem t189 : ti Tryz.prog 189 = ⟨.func, 1, 8, some (.con .nilFunc)⟩ := by kernel_rfl
@[push_cast] theorem t191 : ti Tryz.prog 191 = ⟨.func, 1, 8, some (.con .nilFunc)⟩ := by kernel_rfl
@[push_cast] theorem t192 : ti Tryz.prog 192 = ⟨.func, 1, 8, some (.con .nilFunc)⟩ := by kernel_rfl
@[push_cast] theorem t193 : ti Tryz.prog 193 = ⟨.func, 1, 8, some (.con .nilFunc)⟩ := by kernel_rfl
@[push_cast] theorem t195 : ti Tryz.prog 195 = ⟨.func, 1, 8, some (.con .nilFunc)⟩ := by kernel_rfl
@[push_cast] theorem t196 : ti Tryz.prog 196 = ⟨(.arr 5 3), 5, 40, some (.agg [(.int .i64 0), (.int .i64 0), (.int .i64 0), (.int .i64 0), (.int .i64 0)])⟩ := by kernel_rfl
@[push_cast] theorem t197 : ti Tryz.prog 197 = ⟨(.slice 3), 1, 24, some .nilsl⟩ := by kernel_rfl
@[push_cast] theorem t198 : ti Tryz.prog 198 = ⟨.func, 1, 8, some (.con .nilFunc)⟩ := by kernel_rfl
@[push_cast] theorem t200 : ti Tryz.prog 200 = ⟨.func, 1, 8, some (.con .nilFunc)⟩ := by kernel_rfl
@[push_cast] theorem t201 : ti Tryz.prog 201 = ⟨.func, 1, 8, some (.con .nilFunc)⟩ := by kernel_rfl
@[push_cast] theorem t202 : ti Tryz.prog 202 = ⟨.func, 1, 8, some (.con .nilFunc)⟩ := by kernel_rfl
@[push_cast] theorem t203 : ti Tryz.prog 203 = ⟨(.int .i64), 1, 8, some (.int .i64 0)⟩ := by kernel_rfl
@[push_cast] theorem t205 : ti Tryz.prog 205 = ⟨.func, 1, 8, some (.con .nilFunc)⟩ := by kernel_rfl
@[push_cast] theorem t206 : ti Tryz.prog 206 = ⟨(.ptr 230), 1, 8, some (.con (.pointer none))⟩ := by kernel_rfl
@[push_cast] theorem t207 : ti Tryz.prog 207 = ⟨.func, 1, 8, some (.con .nilFunc)⟩ := by kernel_rfl
@[push_cast] theorem t208 : ti Tryz.prog 208 = ⟨.func, 1, 8, some (.con .nilFunc)⟩ := by kernel_rfl
@[push_cast] theorem t209 : ti Tryz.prog 209 = ⟨.func, 1, 8, some (.con .nilFunc)⟩ := by kernel_rfl
@[push_cast] theorem t210 : ti Tryz.prog 210 = ⟨(.arr 20 146), 20, 160, some (.agg [(.int .u64 0), (.int .u64 0), (.int .u64 0), (.int .u64 0), (.int .u64 0), (.int .u64 0), (.int .u64 0), (.int .u64 0), (.int .u64 0), (.int .u64 0), (.int .u64 0), (.int .u64 0), (.int .u64 0), (.int .u64 0), (.int .u64 0), (.int .u64 0), (.int .u64 0), (.int .u64 0), (.int .u64 0), (.int .u64 0)])⟩ := by kernel_rfl
@[push_cast] theorem t211 : ti Tryz.prog 211 = ⟨(.arr 65 5), 65, 65, some (.agg [(.int .u8 0), (.int .u8 0), (.int .u8 0), (.int .u8 0), (.int .u8 0), (.int .u8 0), (.int .u8 0), (.int .u8 0), (.int .u8 0), (.int .u8 0), (.int .u8 0), (.int .u8 0), (.int .u8 0), (.int .u8 0), (.int .u8 0), (.int .u8 0), (.int .u8 0), (.int .u8 0), (.int .u8 0), (.int .u8 0), (.int .u8 0), (.int .u8 0), (.int .u8 0), (.int .u8 0), (.int .u8 0), (.int .u8 0), (.int .u8 0), (.int .u8 0), (.int .u8 0), (.int .u8 0), (.int .u8 0), (.int .u8 0), (.int .u8 0), (.int .u8 0), (.int .u8 0), (.int .u8 0), (.int .u8 0), (.int .u8 0), (.int .u8 0), (.int .u8 0), (.int .u8 0), (.int .u8 0), (.int .u8 0), (.int .u8 0), (.int .u8 0), (.int .u8 0), (.int .u8 0), (.int .u8 0), (.int .u8 0), (.int .u8 0), (.int .u8 0), (.int .u8 0), (.int .u8 0), (.int .u8 0), (.int .u8 0), (.int .u8 0), (.int .u8 0), (.int .u8 0), (.int .u8 0), (.int .u8 0), (.int .u8 0), (.int .u8 0), (.int .u8 0), (.int .u8 0), (.int .u8 0)])⟩ := by kernel_rfl
@[push_cast] theorem t212 : ti Tryz.prog 212 = ⟨.func, 1, 8, some (.con .nilFunc)⟩ := by kernel_rfl
@[push_cast] theorem t214 : ti Tryz.prog 214 = ⟨.func, 1, 8, some (.con .nilFunc)⟩ := by kernel_rfl
@[push_cast] theorem t215 : ti Tryz.prog 215 = ⟨(.ptr 217), 1, 8, some (.con (.pointer none))⟩ := by kernel_rfl
@[push_cast] theorem t216 : ti Tryz.prog 216 = ⟨(.struct [(0, 215), (1, 36)]), 2, 32, some (.agg [(.con (.pointer none)), .nilsl])⟩ := by kernel_rfl
@[push_cast] theorem t217 : ti Tryz.prog 217 = ⟨(.struct [(0, 215), (1, 36)]), 2, 32, some (.agg [(.con (.pointer none)), .nilsl])⟩ := by kernel_rfl
@[push_cast] theorem t218 : ti Tryz.prog 218 = ⟨.func, 1, 8, some (.con .nilFunc)⟩ := by kernel_rfl
@[push_cast] theorem t219 : ti Tryz.prog 219 = ⟨.func, 1, 8, some (.con .nilFunc)⟩ := by kernel_rfl
@[push_cast] theorem t220 : ti Tryz.prog 220 = ⟨.func, 1, 8, some (.con .nilFunc)⟩ := by kernel_rfl
@[push_cast] theorem t221 : ti Tryz.prog 221 = ⟨(.arr 256 5), 256, 256, some (.agg [(.int .u8 0), (.int .u8 0), (.int .u8 0), (.int .u8 0), (.int .u8 0), (.int .u8 0), (.int .u8 0), (.int .u8 0), (.int .u8 0), (.int .u8 0), (.int .u8 0), (.int .u8 0), (.int .u8 0), (.int .u8 0), (.int .u8 0), (.int .u8 0), (.int .u8 0), (.int .u8 0), (.int .u8 0), (.int .u8 0), (.int .u8 0), (.int .u8 0), (.int .u8 0), (.int .u8 0), (.int .u8 0), (.int .u8 0), (.int .u8 0), (.int .u8 0), (.int .u8 0), (.int .u8 0), (.int .u8 0), (.int .u8 0), (.int .u8 0), (.int .u8 0), (.int .u8 0), (.int .u8 0), (.int .u8 0), (.int .u8 0), (.int .u8 0), (.int .u8 0), (.int .u8 0), (.int .u8 0), (.int .u8 0), (.int .u8 0), (.int .u8 0), (.int .u8 0), (.int .u8 0), (.int .u8 0), (.int .u8 0), (.int .u8 0), (.int .u8 0), (.int .u8 0), (.int .u8 0), (.int .u8 0), (.int .u8 0), (.int .u8 0), (.int .u8 0), (.int .u8 0), (.int .u8 0), (.int .u8 0), (.int .u8 0), (.int .u8 0), (.int .u8 0), (.int .u8 0), (.int .u8 0), (.int .u8 0), (.int .u8 0), (.int .u8 0), (.int .u8 0), (.int .u8 0), (.int .u8 0), (.int .u8 0), (.int .u8 0), (.int .u8 0), (.int .u8 0), (.int .u8 0), (.int .u8 0), (.int .u8 0), (.int .u8 0), (.int .u8 0), (.int .u8 0), (.int .u8 0), (.int .u8 0), (.int .u8 0), (.int .u8 0), (.int .u8 0), (.int .u8 0), (.int .u8 0), (.int .u8 0), (.int .u8 0), (.int .u8 0), (.int .u8 0), (.int .u8 0), (.int .u8 0), (.int .u8 0), (.int .u8 0), (.int .u8 0), (.int .u8 0), (.int .u8 0), (.int .u8 0), (.int .u8 0), (.int .u8 0), (.int .u8 0), (.int .u8 0), (.int .u8 0), (.int .u8 0), (.int .u8 0), (.int .u8 0), (.int .u8 0), (.int .u8 0), (.int .u8 0), (.int .u8 0), (.int .u8 0), (.int .u8 0), (.int .u8 0), (.int .u8 0), (.int .u8 0), (.int .u8 0), (.int .u8 0), (.int .u8 0), (.int .u8 0), (.int .u8 0), (.int .u8 0), (.int .u8 0), (.int .u8 0), (.int .u8 0), (.int .u8 0), (.int .u8 0), (.int .u8 0), (.int .u8 0), (.int .u8 0), (.int .u8 0), (.int .u8 0), (.int .u8 0), (.int .u8 0), (.int .u8 0), (.int .u8 0), (.int .u8 0), (.int .u8 0), (.int .u8 0), (.int .u8 0), (.int .u8 0), (.int .u8 0), (.int .u8 0), (.int .u8 0), (.int .u8 0), (.int .u8 0), (.int .u8 0), (.int .u8 0), (.int .u8 0), (.int .u8 0), (.int .u8 0), (.int .u8 0), (.int .u8 0), (.int .u8 0), (.int .u8 0), (.int .u8 0), (.int .u8 0), (.int .u8 0), (.int .u8 0), (.int .u8 0), (.int .u8 0), (.int .u8 0), (.int .u8 0), (.int .u8 0), (.int .u8 0), (.int .u8 0), (.int .u8 0), (.int .u8 0), (.int .u8 0), (.int .u8 0), (.int .u8 0), (.int .u8 0), (.int .u8 0), (.int .u8 0), (.int .u8 0), (.int .u8 0), (.int .u8 0), (.int .u8 0), (.int .u8 0), (.int .u8 0), (.int .u8 0), (.int .u8 0), (.int .u8 0), (.int .u8 0), (.int .u8 0), (.int .u8 0), (.int .u8 0), (.int .u8 0), (.int .u8 0), (.int .u8 0), (.int .u8 0), (.int .u8 0), (.int .u8 0), (.int .u8 0), (.int .u8 0), (.int .u8 0), (.int .u8 0), (.int .u8 0), (.int .u8 0), (.int .u8 0), (.int .u8 0), (.int .u8 0), (.int .u8 0), (.int .u8 0), (.int .u8 0), (.int .u8 0), (.int .u8 0), (.int .u8 0), (.int .u8 0), (.int .u8 0), (.int .u8 0), (.int .u8 0), (.int .u8 0), (.int .u8 0), (.int .u8 0), (.int .u8 0), (.int .u8 0), (.int .u8 0), (.int .u8 0), (.int .u8 0), (.int .u8 0), (.int .u8 0), (.int .u8 0), (.int .u8 0), (.int .u8 0), (.int .u8 0), (.int .u8 0), (.int .u8 0), (.int .u8 0), (.int .u8 0), (.int .u8 0), (.int .u8 0), (.int .u8 0), (.int .u8 0), (.int .u8 0), (.int .u8 0), (.int .u8 0), (.int .u8 0), (.int .u8 0), (.int .u8 0), (.int .u8 0), (.int .u8 0), (.int .u8 0), (.int .u8 0), (.int .u8 0), (.int .u8 0), (.int .u8 0), (.int .u8 0), (.int .u8 0), (.int .u8 0), (.int .u8 0), (.int .u8 0), (.int .u8 0), (.int .u8 0), (.int .u8 0)])⟩ := by kernel_rfl
@[push_cast] theorem eq222 : EqOk Tryz.prog 222 = True := eq_true (eqOk_of (by kernel_rfl))
@[push_cast] theorem t222 : ti Tryz.prog 222 = ⟨(.struct [(0, 5), (1, 5)]), 2, 2, some (.agg [(.int .u8 0), (.int .u8 0)])⟩ := by kernel_rfl
@[push_cast] theorem eq223 : EqOk Tryz.prog 223 = True := eq_true (eqOk_of (by kernel_rfl))
@[push_cast] theorem t223 : ti Tryz.prog 223 = ⟨(.struct [(0, 5), (1, 5)]), 2, 2, some (.agg [(.int .u8 0), (.int .u8 0)])⟩ := by kernel_rfl
@[push_cast] theorem t224 : ti Tryz.prog 224 = ⟨(.arr 16 223), 32, 32, some (.agg [(.int .u8 0), (.int .u8 0), (.int .u8 0), (.int .u8 0), (.int .u8 0), (.int .u8 0), (.int .u8 0), (.int .u8 0), (.int .u8 0), (.int .u8 0), (.int .u8 0), (.int .u8 0), (.int .u8 0), (.int .u8 0), (.int .u8 0), (.int .u8 0), (.int .u8 0), (.int .u8 0), (.int .u8 0), (.int .u8 0), (.int .u8 0), (.int .u8 0), (.int .u8 0), (.int .u8 0), (.int .u8 0), (.int .u8 0), (.int .u8 0), (.int .u8 0), (.int .u8 0), (.int .u8 0), (.int .u8 0), (.int .u8 0)])⟩ := by kernel_rfl
@[push_cast] theorem t225 : ti Tryz.prog 225 = ⟨.func, 1, 8, some (.con .nilFunc)⟩ := by kernel_rfl
@[push_cast] theorem t226 : ti Tryz.prog 226 = ⟨.func, 1, 8, some (.con .nilFunc)⟩ := by kernel_rfl
@[push_cast] theorem t228 : ti Tryz.prog 228 = ⟨.func, 1, 8, some (.con .nilFunc)⟩ := by kernel_rfl
@[push_cast] theorem t229 : ti Tryz.prog 229 = ⟨(.struct [(0, 9), (1, 9), (2, 157)]), 3, 48, some (.agg [(.str []), (.str []), (.con .nilIface)])⟩ := by kernel_rfl
@[push_cast] theorem t230 : ti Tryz.prog 230 = ⟨(.struct [(0, 9), (1, 9), (2, 157)]), 3, 48, some (.agg [(.str []), (.str []), (.con .nilIface)])⟩ := by kernel_rfl
@[push_cast] theorem t231 : ti Tryz.prog 231 = ⟨.func, 1, 8, some (.con .nilFunc)⟩ := by kernel_rfl
@[push_cast] theorem t232 : ti Tryz.prog 232 = ⟨.func, 1, 8, some (.con .nilFunc)⟩ := by kernel_rfl
@[push_cast] theorem t233 : ti Tryz.prog 233 = ⟨.func, 1, 8, some (.con .nilFunc)⟩ := by kernel_rfl
@[push_cast] theorem t235 : ti Tryz.prog 235 = ⟨.func, 1, 8, some (.con .nilFunc)⟩ := by kernel_rfl
@[push_cast] theorem t236 : ti Tryz.prog 236 = ⟨(.ptr 5), 1, 8, some (.con (.pointer none))⟩ := by kernel_rfl
@[push_cast] theorem t237 : ti Tryz.prog 237 = ⟨.func, 1, 8, some (.con .nilFunc)⟩ := by kernel_rfl
@[push_cast] theorem t238 : ti Tryz.prog 238 = ⟨(.ptr 240), 1, 8, some (.con (.pointer none))⟩ := by kernel_rfl
@[push_cast] theorem eq239 : EqOk Tryz.prog 239 = True := eq_true (eqOk_of (by kernel_rfl))
@[push_cast] theorem t239 : ti Tryz.prog 239 = ⟨(.struct [(0, 9)]), 1, 16, some (.agg [(.str [])])⟩ := by kernel_rfl
@[push_cast] theorem eq240 : EqOk Tryz.prog 240 = True := eq_true (eqOk_of (by kernel_rfl))
@[push_cast] theorem t240 : ti Tryz.prog 240 = ⟨(.struct [(0, 9)]), 1, 16, some (.agg [(.str [])])⟩ := by kernel_rfl
@[push_cast] theorem t241 : ti Tryz.prog 241 = ⟨(.arr 32 5), 32, 32, some (.agg [(.int .u8 0), (.int .u8 0), (.int .u8 0), (.int .u8 0), (.int .u8 0), (.int .u8 0), (.int .u8 0), (.int .u8 0), (.int .u8 0), (.int .u8 0), (.int .u8 0), (.int .u8 0), (.int .u8 0), (.int .u8 0), (.int .u8 0), (.int .u8 0), (.int .u8 0), (.int .u8 0), (.int .u8 0), (.int .u8 0), (.int .u8 0), (.int .u8 0), (.int .u8 0), (.int .u8 0), (.int .u8 0), (.int .u8 0), (.int .u8 0), (.int .u8 0), (.int .u8 0), (.int .u8 0), (.int .u8 0), (.int .u8 0)])⟩ := by kernel_rfl
@[push_cast] theorem t242 : ti Tryz.prog 242 = ⟨(.arr 64 5), 64, 64, some (.agg [(.int .u8 0), (.int .u8 0), (.int .u8 0), (.int .u8 0), (.int .u8 0), (.int .u8 0), (.int .u8 0), (.int .u8 0), (.int .u8 0), (.int .u8 0), (.int .u8 0), (.int .u8 0), (.int .u8 0), (.int .u8 0), (.int .u8 0), (.int .u8 0), (.int .u8 0), (.int .u8 0), (.int .u8 0), (.int .u8 0), (.int .u8 0), (.int .u8 0), (.int .u8 0), (.int .u8 0), (.int .u8 0), (.int .u8 0), (.int .u8 0), (.int .u8 0), (.int .u8 0), (.int .u8 0), (.int .u8 0), (.int .u8 0), (.int .u8 0), (.int .u8 0), (.int .u8 0), (.int .u8 0), (.int .u8 0), (.int .u8 0), (.int .u8 0), (.int .u8 0), (.int .u8 0), (.int .u8 0), (.int .u8 0), (.int .u8 0), (.int .u8 0), (.int .u8 0), (.int .u8 0), (.int .u8 0), (.int .u8 0), (.int .u8 0), (.int .u8 0), (.int .u8 0), (.int .u8 0), (.int .u8 0), (.int .u8 0), (.int .u8 0), (.int .u8 0), (.int .u8 0), (.int .u8 0), (.int .u8 0), (.int .u8 0), (.int .u8 0), (.int .u8 0), (.int .u8 0)])⟩ := by kernel_rfl
@[push_cast] theorem t243 : ti Tryz.prog 243 = ⟨.other, 1, 8, some (.con (.pointer none))⟩ := by kernel_rfl
@[push_cast] theorem t244 : ti Tryz.prog 244 = ⟨.func, 1, 8, some (.con .nilFunc)⟩ := by kernel_rfl
@[push_cast] theorem t245 : ti Tryz.prog 245 = ⟨.func, 1, 8, some (.con .nilFunc)⟩ := by kernel_rfl
@[push_cast] theorem t246 : ti Tryz.prog 246 = ⟨.func, 1, 8, some (.con .nilFunc)⟩ := by kernel_rfl
@[push_cast] theorem t247 : ti Tryz.prog 247 = ⟨(.struct [(0, 17), (1, 17), (2, 17), (3, 9)]), 4, 40, some (.agg [(.con (.pointer none)), (.con (.pointer none)), (.con (.pointer none)), (.str [])])⟩ := by kernel_rfl
@[push_cast] theorem t248 : ti Tryz.prog 248 = ⟨(.struct [(0, 17), (1, 17), (2, 17), (3, 9)]), 4, 40, some (.agg [(.con (.pointer none)), (.con (.pointer none)), (.con (.pointer none)), (.str [])])⟩ := by kernel_rfl
@[push_cast] theorem t249 : ti Tryz.prog 249 = ⟨(.arr 0 16), 0, 0, some (.agg [])⟩ := by kernel_rfl
@[push_cast] theorem t250 : ti Tryz.prog 250 = ⟨(.struct [(0, 249)]), 0, 0, some (.agg [])⟩ := by kernel_rfl
@[push_cast] theorem t251 : ti Tryz.prog 251 = ⟨(.struct [(0, 249)]), 0, 0, some (.agg [])⟩ := by kernel_rfl
@[push_cast] theorem t252 : ti Tryz.prog 252 = ⟨(.int .u8), 1, 1, some (.int .u8 0)⟩ := by kernel_rfl
@[push_cast] theorem t253 : ti Tryz.prog 253 = ⟨(.int .u8), 1, 1, some (.int .u8 0)⟩ := by kernel_rfl
@[push_cast] theorem t254 : ti Tryz.prog 254 = ⟨.func, 1, 8, some (.con .nilFunc)⟩ := by kernel_rfl
@[push_cast] theorem t255 : ti Tryz.prog 255 = ⟨(.int .i32), 1, 4, some (.int .i32 0)⟩ := by kernel_rfl
@[push_cast] theorem t256 : ti Tryz.prog 256 = ⟨(.int .i32), 1, 4, some (.int .i32 0)⟩ := by kernel_rfl
@[push_cast] theorem t257 : ti Tryz.prog 257 = ⟨(.struct [(0, 12), (1, 12), (2, 171), (3, 252), (4, 5), (5, 5), (6, 253), (7, 254), (8, 236), (9, 255), (10, 256)]), 11, 48, some (.agg [(.int .u64 0), (.int .u64 0), (.int .u32 0), (.int .u8 0), (.int .u8 0), (.int .u8 0), (.int .u8 0), (.con .nilFunc), (.con (.pointer none)), (.int .i32 0), (.int .i32 0)])⟩ := by kernel_rfl
@[push_cast] theorem t258 : ti Tryz.prog 258 = ⟨(.struct [(0, 12), (1, 12), (2, 171), (3, 252), (4, 5), (5, 5), (6, 253), (7, 254), (8, 236), (9, 255), (10, 256)]), 11, 48, some (.agg [(.int .u64 0), (.int .u64 0), (.int .u32 0), (.int .u8 0), (.int .u8 0), (.int .u8 0), (.int .u8 0), (.con .nilFunc), (.con (.pointer none)), (.int .i32 0), (.int .i32 0)])⟩ := by kernel_rfl
theorem n2 : Tryz.prog.funcs[2]? = some Tryz.f2 := by kernel_rfl
theorem e2 : entB Tryz.prog 2 = true := by kernel_rfl
theorem o2 : bodyOk (anL []) Tryz.f2 = true := by kernel_rfl
theorem n3 : Tryz.prog.funcs[3]? = some Tryz.f3 := by kernel_rfl
theorem e3 : entB Tryz.prog 3 = true := by kernel_rfl
theorem o3 : bodyOk (anL []) Tryz.f3 = true := by kernel_rfl
theorem n4 : Tryz.prog.funcs[4]? = some Tryz.f4 := by kernel_rfl
theorem e4 : entB Tryz.prog 4 = true := by kernel_rfl
theorem o4 : bodyOk (anL [(13, [0, 0, 3, 7, 15, 31, 31, 127, 255, 511, 1023, 1023, 4095, 8191, 16383, 1023, 1023, 99327, 230399, 492543, 1048575, 2097151, 4194303, 8388607, 8388607, 33554431, 67108863, 134217727, 8388607, 8388607, 813694975, 1887436799, 4034920447, 8589934591, 17179869183, 34359738367, 68719476735, 68719476735, 274877906943, 549755813887, 1099511627775, 68719476735, 68719476735, 6665789243391, 15461882265599, 33054068310015, 70368744177663, 140737488355327]), (15, [0, 0, 3, 7, 15, 0, 0, 96, 224, 480, 1023]), (17, [0, 0, 3, 7, 15, 31, 63, 127, 255, 511, 1023, 2047, 2047, 8191, 16383, 32767, 65535, 65535, 262143, 524287, 1048575, 2097151, 4194303, 8388607, 16777215, 16777215, 67108863, 134217727, 268435455, 16777215, 16777215, 1627389951, 3774873599, 8069840895, 17179869183, 34359738367])]) Tryz.f4 = true := by kernel_rfl
theorem n5 : Tryz.prog.funcs[5]? = some Tryz.f5 := by kernel_rfl
theorem e5 : entB Tryz.prog 5 = true := by kernel_rfl
theorem o5 : bodyOk (anL []) Tryz.f5 = true := by kernel_rfl
theorem n6 : Tryz.prog.funcs[6]? = some Tryz.f6 := by kernel_rfl
theorem e6 : entB Tryz.prog 6 = true := by kernel_rfl
theorem o6 : bodyOk (anL []) Tryz.f6 = true := by kernel_rfl
theorem n10 : Tryz.prog.funcs[10]? = some Tryz.f10 := by kernel_rfl
theorem e10 : entB Tryz.prog 10 = true := by kernel_rfl
theorem o10 : bodyOk (anL [(12, [0, 1, 3, 7, 7, 31, 63, 127, 255, 7, 1023, 2047, 4095, 8191, 8191, 8191, 57343, 122879, 253951, 516095, 1048575, 2097151, 4194303, 8388607, 8388607, 33554431, 67108863, 134217727, 8388607, 8388607, 813694975, 1887436799, 4034920447, 8589934591, 17179869183, 34359738367, 68719476735, 68719476735, 68719476735, 481036337151, 1030792151039, 2199023255551, 4398046511103, 8796093022207])]) Tryz.f10 = true := by kernel_rfl
theorem w10 {ct : Ct} (ow : Nat → Bool) (ad : List Adj) {code : Code} (hb : Tryz.f10.body = some code) (hc : CtOk pg ct) {args : List V} {r : V} (ha : Nat.ble args.length 108 = true) (hr : r.noId = true) (h : exec ⟨pg, ct, ow, 108, anL [(12, [0, 1, 3, 7, 7, 31, 63, 127, 255, 7, 1023, 2047, 4095, 8191, 8191, 8191, 57343, 122879, 253951, 516095, 1048575, 2097151, 4194303, 8388607, 8388607, 33554431, 67108863, 134217727, 8388607, 8388607, 813694975, 1887436799, 4034920447, 8589934591, 17179869183, 34359738367, 68719476735, 68719476735, 68719476735, 481036337151, 1030792151039, 2199023255551, 4398046511103, 8796093022207])]⟩ code ⟨argE args, hOf []⟩ (PostF pg.prog ad [.tmp 2] r [])) : PCall pg 10 args r := pcall_inF ad hc fol 10 n10 hb rfl e10 rfl (bodyOk_at o10 hb rfl) ha hr h
theorem n14 : Tryz.prog.funcs[14]? = some Tryz.f14 := by kernel_rfl
theorem e14 : entB Tryz.prog 14 = true := by kernel_rfl
theorem o14 : bodyOk (anL [(13, [0, 0, 0, 6, 14, 30, 62, 126, 0, 0, 768, 1792, 3840, 7936, 16382, 0, 65534, 131071, 262143, 0, 1048575, 2097151, 4194303]), (14, [0, 0, 0, 6, 14, 30, 62, 126, 0, 0, 768, 1792, 3840, 7936, 16383, 0, 32768, 131071]), (17, [0, 1, 3, 7, 15, 31, 63, 127, 255, 511, 1023, 2047, 255, 255, 12543, 28927, 61695, 131071, 262143, 524287, 1048575, 1048575, 3145727, 1048575, 1048575, 17825791, 66060287, 134217727, 268435455, 536870911, 1073741823, 2147483647, 4294967295])]) Tryz.f14 = true := by kernel_rfl
theorem w14 {ct : Ct} (ow : Nat → Bool) (ad : List Adj) {code : Code} (hb : Tryz.f14.body = some code) (hc : CtOk pg ct) {args : List V} {r : V} (ha : Nat.ble args.length 169 = true) (hr : r.noId = true) (h : exec ⟨pg, ct, ow, 169, anL [(13, [0, 0, 0, 6, 14, 30, 62, 126, 0, 0, 768, 1792, 3840, 7936, 16382, 0, 65534, 131071, 262143, 0, 1048575, 2097151, 4194303]), (14, [0, 0, 0, 6, 14, 30, 62, 126, 0, 0, 768, 1792, 3840, 7936, 16383, 0, 32768, 131071]), (17, [0, 1, 3, 7, 15, 31, 63, 127, 255, 511, 1023, 2047, 255, 255, 12543, 28927, 61695, 131071, 262143, 524287, 1048575, 1048575, 3145727, 1048575, 1048575, 17825791, 66060287, 134217727, 268435455, 536870911, 1073741823, 2147483647, 4294967295])]⟩ code ⟨argE args, hOf []⟩ (PostF pg.prog ad [.tmp 8] r [])) : PCall pg 14 args r := pcall_inF ad hc fol 14 n14 hb rfl e14 rfl (bodyOk_at o14 hb rfl) ha hr h
theorem n20 : Tryz.prog.funcs[20]? = some Tryz.f20 := by kernel_rfl
theorem e20 : entB Tryz.prog 20 = true := by kernel_rfl
theorem o20 : bodyOk (anL [(6, [0, 0, 3, 7, 0, 0, 48, 112, 255, 511])]) Tryz.f20 = true := by kernel_rfl
theorem w20 {ct : Ct} (ow : Nat → Bool) (ad : List Adj) {code : Code} (hb : Tryz.f20.body = some code) (hc : CtOk pg ct) {args : List V} {r : V} (ha : Nat.ble args.length 27 = true) (hr : r.noId = true) (h : exec ⟨pg, ct, ow, 27, anL [(6, [0, 0, 3, 7, 0, 0, 48, 112, 255, 511])]⟩ code ⟨argE args, hOf []⟩ (PostF pg.prog ad [.tmp 4] r [])) : PCall pg 20 args r := pcall_inF ad hc fol 20 n20 hb rfl e20 rfl (bodyOk_at o20 hb rfl) ha hr h
theorem n21 : Tryz.prog.funcs[21]? = some Tryz.f21 := by kernel_rfl
theorem e21 : entB Tryz.prog 21 = true := by kernel_rfl
theorem o21 : bodyOk (anL []) Tryz.f21 = true := by kernel_rfl
theorem w21 {ct : Ct} (ow : Nat → Bool) (ad : List Adj) {code : Code} (hb : Tryz.f21.body = some code) (hc : CtOk pg ct) {args : List V} {r : V} (ha : Nat.ble args.length 14 = true) (hr : r.noId = true) (h : exec ⟨pg, ct, ow, 14, anL []⟩ code ⟨argE args, hOf []⟩ (PostF pg.prog ad [.tmp 0] r [])) : PCall pg 21 args r := pcall_inF ad hc fol 21 n21 hb rfl e21 rfl (bodyOk_at o21 hb rfl) ha hr h
theorem n23 : Tryz.prog.funcs[23]? = some Tryz.f23 := by kernel_rfl
theorem e23 : entB Tryz.prog 23 = true := by kernel_rfl
theorem o23 : bodyOk (anL []) Tryz.f23 = true := by kernel_rfl
theorem w23 {ct : Ct} (ow : Nat → Bool) (ad : List Adj) {code : Code} (hb : Tryz.f23.body = some code) (hc : CtOk pg ct) {args : List V} {r : V} (ha : Nat.ble args.length 38 = true) (hr : r.noId = true) (h : exec ⟨pg, ct, ow, 38, anL []⟩ code ⟨argE args, hOf []⟩ (PostF pg.prog ad [.tmp 2] r [])) : PCall pg 23 args r := pcall_inF ad hc fol 23 n23 hb rfl e23 rfl (bodyOk_at o23 hb rfl) ha hr h
theorem n25 : Tryz.prog.funcs[25]? = some Tryz.f25 := by kernel_rfl
theorem e25 : entB Tryz.prog 25 = true := by kernel_rfl
theorem o25 : bodyOk (anL []) Tryz.f25 = true := by kernel_rfl
theorem w25 {ct : Ct} (ow : Nat → Bool) (ad : List Adj) {code : Code} (hb : Tryz.f25.body = some code) (hc : CtOk pg ct) {args : List V} {r : V} (ha : Nat.ble args.length 10 = true) (hr : r.noId = true) (h : exec ⟨pg, ct, ow, 10, anL []⟩ code ⟨argE args, hOf []⟩ (PostF pg.prog ad [.tmp 4] r [])) : PCall pg 25 args r := pcall_inF ad hc fol 25 n25 hb rfl e25 rfl (bodyOk_at o25 hb rfl) ha hr h
theorem n33 : Tryz.prog.funcs[33]? = some Tryz.f33 := by kernel_rfl
theorem e33 : entB Tryz.prog 33 = true := by kernel_rfl
theorem o33 : bodyOk (anL []) Tryz.f33 = true := by kernel_rfl
theorem w33 {ct : Ct} (ow : Nat → Bool) (ad : List Adj) {code : Code} (hb : Tryz.f33.body = some code) (hc : CtOk pg ct) {args : List V} {r : V} (ha : Nat.ble args.length 52 = true) (hr : r.noId = true) (h : exec ⟨pg, ct, ow, 52, anL []⟩ code ⟨argE args, hOf []⟩ (PostF pg.prog ad [.tmp 4] r [])) : PCall pg 33 args r := pcall_inF ad hc fol 33 n33 hb rfl e33 rfl (bodyOk_at o33 hb rfl) ha hr h
theorem n35 : Tryz.prog.funcs[35]? = some Tryz.f35 := by kernel_rfl
theorem e35 : entB Tryz.prog 35 = true := by kernel_rfl
theorem o35 : bodyOk (anL []) Tryz.f35 = true := by kernel_rfl
theorem w35 {ct : Ct} (ow : Nat → Bool) (ad : List Adj) {code : Code} (hb : Tryz.f35.body = some code) (hc : CtOk pg ct) {args : List V} {r : V} (ha : Nat.ble args.length 12 = true) (hr : r.noId = true) (h : exec ⟨pg, ct, ow, 12, anL []⟩ code ⟨argE args, hOf []⟩ (PostF pg.prog ad [.tmp 2, .tmp 3] r [])) : PCall pg 35 args r := pcall_inF ad hc fol 35 n35 hb rfl e35 rfl (bodyOk_at o35 hb rfl) ha hr h
theorem n37 : Tryz.prog.funcs[37]? = some Tryz.f37 := by kernel_rfl
theorem e37 : entB Tryz.prog 37 = true := by kernel_rfl
theorem o37 : bodyOk (anL []) Tryz.f37 = true := by kernel_rfl
theorem w37 {ct : Ct} (ow : Nat → Bool) (ad : List Adj) {code : Code} (hb : Tryz.f37.body = some code) (hc : CtOk pg ct) {args : List V} {r : V} (ha : Nat.ble args.length 27 = true) (hr : r.noId = true) (h : exec ⟨pg, ct, ow, 27, anL []⟩ code ⟨argE args, hOf []⟩ (PostF pg.prog ad [.cell 4 41, .tmp 5, .tmp 6] r [])) : PCall pg 37 args r := pcall_inF ad hc fol 37 n37 hb rfl e37 rfl (bodyOk_at o37 hb rfl) ha hr h
theorem n38 : Tryz.prog.funcs[38]? = some Tryz.f38 := by kernel_rfl
theorem e38 : entB Tryz.prog 38 = true := by kernel_rfl
theorem o38 : bodyOk (anL []) Tryz.f38 = true := by kernel_rfl
theorem w38 {ct : Ct} (ow : Nat → Bool) (ad : List Adj) {code : Code} (hb : Tryz.f38.body = some code) (hc : CtOk pg ct) {args : List V} {r : V} (ha : Nat.ble args.length 24 = true) (hr : r.noId = true) (h : exec ⟨pg, ct, ow, 24, anL []⟩ code ⟨argE args, hOf []⟩ (PostF pg.prog ad [.tmp 2, .tmp 3] r [])) : PCall pg 38 args r := pcall_inF ad hc fol 38 n38 hb rfl e38 rfl (bodyOk_at o38 hb rfl) ha hr h
theorem n39 : Tryz.prog.funcs[39]? = some Tryz.f39 := by kernel_rfl
theorem e39 : entB Tryz.prog 39 = true := by kernel_rfl
theorem o39 : bodyOk (anL []) Tryz.f39 = true := by kernel_rfl
theorem w39 {ct : Ct} (ow : Nat → Bool) (ad : List Adj) {code : Code} (hb : Tryz.f39.body = some code) (hc : CtOk pg ct) {args : List V} {r : V} (ha : Nat.ble args.length 19 = true) (hr : r.noId = true) (h : exec ⟨pg, ct, ow, 19, anL []⟩ code ⟨argE args, hOf []⟩ (PostF pg.prog ad [.tmp 2, .tmp 3, .tmp 4] r [])) : PCall pg 39 args r := pcall_inF ad hc fol 39 n39 hb rfl e39 rfl (bodyOk_at o39 hb rfl) ha hr h
theorem n40 : Tryz.prog.funcs[40]? = some Tryz.f40 := by kernel_rfl
theorem e40 : entB Tryz.prog 40 = true := by kernel_rfl
theorem o40 : bodyOk (anL []) Tryz.f40 = true := by kernel_rfl
theorem w40 {ct : Ct} (ow : Nat → Bool) (ad : List Adj) {code : Code} (hb : Tryz.f40.body = some code) (hc : CtOk pg ct) {args : List V} {r : V} (ha : Nat.ble args.length 17 = true) (hr : r.noId = true) (h : exec ⟨pg, ct, ow, 17, anL []⟩ code ⟨argE args, hOf []⟩ (PostF pg.prog ad [.tmp 2, .tmp 3] r [])) : PCall pg 40 args r := pcall_inF ad hc fol 40 n40 hb rfl e40 rfl (bodyOk_at o40 hb rfl) ha hr h
theorem n42 : Tryz.prog.funcs[42]? = some Tryz.f42 := by kernel_rfl
theorem e42 : entB Tryz.prog 42 = true := by kernel_rfl
theorem o42 : bodyOk (anL [(19, [0, 0, 1, 7, 15])]) Tryz.f42 = true := by kernel_rfl
theorem w42 {ct : Ct} (ow : Nat → Bool) (ad : List Adj) {code : Code} (hb : Tryz.f42.body = some code) (hc : CtOk pg ct) {args : List V} {r : V} (ha : Nat.ble args.length 63 = true) (hr : r.noId = true) (h : exec ⟨pg, ct, ow, 63, anL [(19, [0, 0, 1, 7, 15])]⟩ code ⟨argE args, hOf []⟩ (PostF pg.prog ad [.tmp 2, .tmp 3, .tmp 4] r [])) : PCall pg 42 args r := pcall_inF ad hc fol 42 n42 hb rfl e42 rfl (bodyOk_at o42 hb rfl) ha hr h
theorem n44 : Tryz.prog.funcs[44]? = some Tryz.f44 := by kernel_rfl
theorem e44 : entB Tryz.prog 44 = true := by kernel_rfl
theorem o44 : bodyOk (anL [(6, [0, 0, 3, 7, 0, 0, 48, 112, 255])]) Tryz.f44 = true := by kernel_rfl
theorem w44 {ct : Ct} (ow : Nat → Bool) (ad : List Adj) {code : Code} (hb : Tryz.f44.body = some code) (hc : CtOk pg ct) {args : List V} {r : V} (ha : Nat.ble args.length 26 = true) (hr : r.noId = true) (h : exec ⟨pg, ct, ow, 26, anL [(6, [0, 0, 3, 7, 0, 0, 48, 112, 255])]⟩ code ⟨argE args, hOf []⟩ (PostF pg.prog ad [.tmp 4] r [])) : PCall pg 44 args r := pcall_inF ad hc fol 44 n44 hb rfl e44 rfl (bodyOk_at o44 hb rfl) ha hr h
theorem n48 : Tryz.prog.funcs[48]? = some Tryz.f48 := by kernel_rfl
theorem e48 : entB Tryz.prog 48 = true := by kernel_rfl
theorem o48 : bodyOk (anL []) Tryz.f48 = true := by kernel_rfl
theorem w48 {ct : Ct} (ow : Nat → Bool) (ad : List Adj) {code : Code} (hb : Tryz.f48.body = some code) (hc : CtOk pg ct) {args : List V} {r : V} (ha : Nat.ble args.length 8 = true) (hr : r.noId = true) (h : exec ⟨pg, ct, ow, 8, anL []⟩ code ⟨argE args, hOf []⟩ (PostF pg.prog ad [.tmp 2] r [])) : PCall pg 48 args r := pcall_inF ad hc fol 48 n48 hb rfl e48 rfl (bodyOk_at o48 hb rfl) ha hr h
theorem nw48 {ct : Ct} (ow : Nat → Bool) (ad : List Adj) {code : Code} (hb : Tryz.f48.body = some code) (hc : CtOk pg ct) {args : List V} {r : V} {nb : Blk} (ha : Nat.ble args.length 8 = true) (hr : r.newOk = true) (hnb : noIdB nb) (h : exec ⟨pg, ct, ow, 8, anL []⟩ code ⟨argE args, hOf []⟩ (PostF pg.prog ad [.tmp 2] r [(8999, nb)])) : NCall pg 48 args r nb := ncall_inF ad hc fol 48 n48 hb rfl e48 rfl (bodyOk_at o48 hb rfl) ha hr hnb h
theorem n49 : Tryz.prog.funcs[49]? = some Tryz.f49 := by kernel_rfl
theorem e49 : entB Tryz.prog 49 = true := by kernel_rfl
theorem o49 : bodyOk (anL []) Tryz.f49 = true := by kernel_rfl
theorem w49 {ct : Ct} (ow : Nat → Bool) (ad : List Adj) {code : Code} (hb : Tryz.f49.body = some code) (hc : CtOk pg ct) {args : List V} {r : V} (ha : Nat.ble args.length 9 = true) (hr : r.noId = true) (h : exec ⟨pg, ct, ow, 9, anL []⟩ code ⟨argE args, hOf []⟩ (PostF pg.prog ad [.tmp 4] r [])) : PCall pg 49 args r := pcall_inF ad hc fol 49 n49 hb rfl e49 rfl (bodyOk_at o49 hb rfl) ha hr h
theorem n50 : Tryz.prog.funcs[50]? = some Tryz.f50 := by kernel_rfl
theorem e50 : entB Tryz.prog 50 = true := by kernel_rfl
theorem o50 : bodyOk (anL [(5, [0, 0, 3, 0, 0, 24, 63, 127])]) Tryz.f50 = true := by kernel_rfl
theorem fw50 {ct : Ct} (ow : Nat → Bool) (ad : List Adj) {code : Code} (hb : Tryz.f50.body = some code) (hc : CtOk pg ct) {args : List V} {hl hl' : HL} {r : V} (ha : Nat.ble args.length 33 = true) (hlo : ∀ p ∈ hl, 9000 ≤ p.1) (hin : hlIn (idsIn hl) hl') (hr : V.menIn (idsIn hl) r = true) (h : exec ⟨pg, ct, ow, 33, anL [(5, [0, 0, 3, 0, 0, 24, 63, 127])]⟩ code ⟨argE args, hOf hl⟩ (PostF pg.prog ad [.tmp 6] r hl')) : FCall pg 50 args hl r hl' := fcall_inF ad hc fol 50 n50 hb rfl e50 rfl (bodyOk_at o50 hb rfl) ha hlo hin hr h
theorem n51 : Tryz.prog.funcs[51]? = some Tryz.f51 := by kernel_rfl
theorem e51 : entB Tryz.prog 51 = true := by kernel_rfl
theorem o51 : bodyOk (anL []) Tryz.f51 = true := by kernel_rfl
theorem nw51 {ct : Ct} (ow : Nat → Bool) (ad : List Adj) {code : Code} (hb : Tryz.f51.body = some code) (hc : CtOk pg ct) {args : List V} {r : V} {nb : Blk} (ha : Nat.ble args.length 8 = true) (hr : r.newOk = true) (hnb : noIdB nb) (h : exec ⟨pg, ct, ow, 8, anL []⟩ code ⟨argE args, hOf []⟩ (PostF pg.prog ad [.tmp 2] r [(8999, nb)])) : NCall pg 51 args r nb := ncall_inF ad hc fol 51 n51 hb rfl e51 rfl (bodyOk_at o51 hb rfl) ha hr hnb h
theorem n52 : Tryz.prog.funcs[52]? = some Tryz.f52 := by kernel_rfl
theorem e52 : entB Tryz.prog 52 = true := by kernel_rfl
theorem o52 : bodyOk (anL [(5, [0, 0, 0, 0, 0, 0, 48, 112, 240, 496, 0, 0, 3072, 7168, 15360, 32752, 65523, 131059, 262131, 524287, 1048575, 2097151])]) Tryz.f52 = true := by kernel_rfl
theorem w52 {ct : Ct} (ow : Nat → Bool) (ad : List Adj) {code : Code} (hb : Tryz.f52.body = some code) (hc : CtOk pg ct) {args : List V} {r : V} (ha : Nat.ble args.length 34 = true) (hr : r.noId = true) (h : exec ⟨pg, ct, ow, 34, anL [(5, [0, 0, 0, 0, 0, 0, 48, 112, 240, 496, 0, 0, 3072, 7168, 15360, 32752, 65523, 131059, 262131, 524287, 1048575, 2097151])]⟩ code ⟨argE args, hOf []⟩ (PostF pg.prog ad [.tmp 2] r [])) : PCall pg 52 args r := pcall_inF ad hc fol 52 n52 hb rfl e52 rfl (bodyOk_at o52 hb rfl) ha hr h
theorem n53 : Tryz.prog.funcs[53]? = some Tryz.f53 := by kernel_rfl
theorem e53 : entB Tryz.prog 53 = true := by kernel_rfl
theorem o53 : bodyOk (anL [(6, [0, 0, 0, 4, 12, 30, 62, 127]), (17, [0, 1, 0, 4, 15, 31])]) Tryz.f53 = true := by kernel_rfl
theorem w53 {ct : Ct} (ow : Nat → Bool) (ad : List Adj) {code : Code} (hb : Tryz.f53.body = some code) (hc : CtOk pg ct) {args : List V} {r : V} (ha : Nat.ble args.length 77 = true) (hr : r.noId = true) (h : exec ⟨pg, ct, ow, 77, anL [(6, [0, 0, 0, 4, 12, 30, 62, 127]), (17, [0, 1, 0, 4, 15, 31])]⟩ code ⟨argE args, hOf []⟩ (PostF pg.prog ad [.tmp 4] r [])) : PCall pg 53 args r := pcall_inF ad hc fol 53 n53 hb rfl e53 rfl (bodyOk_at o53 hb rfl) ha hr h
theorem fw53 {ct : Ct} (ow : Nat → Bool) (ad : List Adj) {code : Code} (hb : Tryz.f53.body = some code) (hc : CtOk pg ct) {args : List V} {hl hl' : HL} {r : V} (ha : Nat.ble args.length 77 = true) (hlo : ∀ p ∈ hl, 9000 ≤ p.1) (hin : hlIn (idsIn hl) hl') (hr : V.menIn (idsIn hl) r = true) (h : exec ⟨pg, ct, ow, 77, anL [(6, [0, 0, 0, 4, 12, 30, 62, 127]), (17, [0, 1, 0, 4, 15, 31])]⟩ code ⟨argE args, hOf hl⟩ (PostF pg.prog ad [.tmp 4] r hl')) : FCall pg 53 args hl r hl' := fcall_inF ad hc fol 53 n53 hb rfl e53 rfl (bodyOk_at o53 hb rfl) ha hlo hin hr h
theorem n55 : Tryz.prog.funcs[55]? = some Tryz.f55 := by kernel_rfl
theorem e55 : entB Tryz.prog 55 = true := by kernel_rfl
theorem o55 : bodyOk (anL []) Tryz.f55 = true := by kernel_rfl
theorem w55 {ct : Ct} (ow : Nat → Bool) (ad : List Adj) {code : Code} (hb : Tryz.f55.body = some code) (hc : CtOk pg ct) {args : List V} {r : V} (ha : Nat.ble args.length 15 = true) (hr : r.noId = true) (h : exec ⟨pg, ct, ow, 15, anL []⟩ code ⟨argE args, hOf []⟩ (PostF pg.prog ad [.tmp 6] r [])) : PCall pg 55 args r := pcall_inF ad hc fol 55 n55 hb rfl e55 rfl (bodyOk_at o55 hb rfl) ha hr h
theorem n57 : Tryz.prog.funcs[57]? = some Tryz.f57 := by kernel_rfl
theorem e57 : entB Tryz.prog 57 = true := by kernel_rfl
theorem o57 : bodyOk (anL []) Tryz.f57 = true := by kernel_rfl
theorem w57 {ct : Ct} (ow : Nat → Bool) (ad : List Adj) {code : Code} (hb : Tryz.f57.body = some code) (hc : CtOk pg ct) {args : List V} {r : V} (ha : Nat.ble args.length 26 = true) (hr : r.noId = true) (h : exec ⟨pg, ct, ow, 26, anL []⟩ code ⟨argE args, hOf []⟩ (PostF pg.prog ad [.tmp 2] r [])) : PCall pg 57 args r := pcall_inF ad hc fol 57 n57 hb rfl e57 rfl (bodyOk_at o57 hb rfl) ha hr h
theorem n61 : Tryz.prog.funcs[61]? = some Tryz.f61 := by kernel_rfl
theorem e61 : entB Tryz.prog 61 = true := by kernel_rfl
theorem o61 : bodyOk (anL []) Tryz.f61 = true := by kernel_rfl
theorem w61 {ct : Ct} (ow : Nat → Bool) (ad : List Adj) {code : Code} (hb : Tryz.f61.body = some code) (hc : CtOk pg ct) {args : List V} {r : V} (ha : Nat.ble args.length 47 = true) (hr : r.noId = true) (h : exec ⟨pg, ct, ow, 47, anL []⟩ code ⟨argE args, hOf []⟩ (PostF pg.prog ad [.tmp 2] r [])) : PCall pg 61 args r := pcall_inF ad hc fol 61 n61 hb rfl e61 rfl (bodyOk_at o61 hb rfl) ha hr h
theorem n62 : Tryz.prog.funcs[62]? = some Tryz.f62 := by kernel_rfl
theorem e62 : entB Tryz.prog 62 = true := by kernel_rfl
theorem o62 : bodyOk (anL []) Tryz.f62 = true := by kernel_rfl
theorem w62 {ct : Ct} (ow : Nat → Bool) (ad : List Adj) {code : Code} (hb : Tryz.f62.body = some code) (hc : CtOk pg ct) {args : List V} {r : V} (ha : Nat.ble args.length 13 = true) (hr : r.noId = true) (h : exec ⟨pg, ct, ow, 13, anL []⟩ code ⟨argE args, hOf []⟩ (PostF pg.prog ad [.tmp 2, .tmp 3] r [])) : PCall pg 62 args r := pcall_inF ad hc fol 62 n62 hb rfl e62 rfl (bodyOk_at o62 hb rfl) ha hr h
theorem n64 : Tryz.prog.funcs[64]? = some Tryz.f64 := by kernel_rfl
theorem e64 : entB Tryz.prog 64 = true := by kernel_rfl
theorem o64 : bodyOk (anL [(21, [0, 0, 2, 7, 15])]) Tryz.f64 = true := by kernel_rfl
theorem w64 {ct : Ct} (ow : Nat → Bool) (ad : List Adj) {code : Code} (hb : Tryz.f64.body = some code) (hc : CtOk pg ct) {args : List V} {r : V} (ha : Nat.ble args.length 105 = true) (hr : r.noId = true) (h : exec ⟨pg, ct, ow, 105, anL [(21, [0, 0, 2, 7, 15])]⟩ code ⟨argE args, hOf []⟩ (PostF pg.prog ad [.tmp 2] r [])) : PCall pg 64 args r := pcall_inF ad hc fol 64 n64 hb rfl e64 rfl (bodyOk_at o64 hb rfl) ha hr h
theorem n65 : Tryz.prog.funcs[65]? = some Tryz.f65 := by kernel_rfl
theorem e65 : entB Tryz.prog 65 = true := by kernel_rfl
theorem o65 : bodyOk (anL []) Tryz.f65 = true := by kernel_rfl
theorem w65 {ct : Ct} (ow : Nat → Bool) (ad : List Adj) {code : Code} (hb : Tryz.f65.body = some code) (hc : CtOk pg ct) {args : List V} {r : V} (ha : Nat.ble args.length 9 = true) (hr : r.noId = true) (h : exec ⟨pg, ct, ow, 9, anL []⟩ code ⟨argE args, hOf []⟩ (PostF pg.prog ad [.tmp 4] r [])) : PCall pg 65 args r := pcall_inF ad hc fol 65 n65 hb rfl e65 rfl (bodyOk_at o65 hb rfl) ha hr h
theorem n69 : Tryz.prog.funcs[69]? = some Tryz.f69 := by kernel_rfl
theorem e69 : entB Tryz.prog 69 = true := by kernel_rfl
theorem o69 : bodyOk (anL []) Tryz.f69 = true := by kernel_rfl
theorem w69 {ct : Ct} (ow : Nat → Bool) (ad : List Adj) {code : Code} (hb : Tryz.f69.body = some code) (hc : CtOk pg ct) {args : List V} {r : V} (ha : Nat.ble args.length 8 = true) (hr : r.noId = true) (h : exec ⟨pg, ct, ow, 8, anL []⟩ code ⟨argE args, hOf []⟩ (PostF pg.prog ad [.tmp 2] r [])) : PCall pg 69 args r := pcall_inF ad hc fol 69 n69 hb rfl e69 rfl (bodyOk_at o69 hb rfl) ha hr h
theorem n72 : Tryz.prog.funcs[72]? = some Tryz.f72 := by kernel_rfl
theorem e72 : entB Tryz.prog 72 = true := by kernel_rfl
theorem o72 : bodyOk (anL []) Tryz.f72 = true := by kernel_rfl
theorem w72 {ct : Ct} (ow : Nat → Bool) (ad : List Adj) {code : Code} (hb : Tryz.f72.body = some code) (hc : CtOk pg ct) {args : List V} {r : V} (ha : Nat.ble args.length 101 = true) (hr : r.noId = true) (h : exec ⟨pg, ct, ow, 101, anL []⟩ code ⟨argE args, hOf []⟩ (PostF pg.prog ad [.tmp 2] r [])) : PCall pg 72 args r := pcall_inF ad hc fol 72 n72 hb rfl e72 rfl (bodyOk_at o72 hb rfl) ha hr h
theorem n73 : Tryz.prog.funcs[73]? = some Tryz.f73 := by kernel_rfl
theorem e73 : entB Tryz.prog 73 = true := by kernel_rfl
theorem o73 : bodyOk (anL []) Tryz.f73 = true := by kernel_rfl
theorem w73 {ct : Ct} (ow : Nat → Bool) (ad : List Adj) {code : Code} (hb : Tryz.f73.body = some code) (hc : CtOk pg ct) {args : List V} {r : V} (ha : Nat.ble args.length 30 = true) (hr : r.noId = true) (h : exec ⟨pg, ct, ow, 30, anL []⟩ code ⟨argE args, hOf []⟩ (PostF pg.prog ad [.tmp 4] r [])) : PCall pg 73 args r := pcall_inF ad hc fol 73 n73 hb rfl e73 rfl (bodyOk_at o73 hb rfl) ha hr h
theorem n76 : Tryz.prog.funcs[76]? = some Tryz.f76 := by kernel_rfl
theorem e76 : entB Tryz.prog 76 = true := by kernel_rfl
theorem o76 : bodyOk (anL [(6, [0, 0, 3, 7, 0, 0, 48, 112, 255])]) Tryz.f76 = true := by kernel_rfl
theorem w76 {ct : Ct} (ow : Nat → Bool) (ad : List Adj) {code : Code} (hb : Tryz.f76.body = some code) (hc : CtOk pg ct) {args : List V} {r : V} (ha : Nat.ble args.length 26 = true) (hr : r.noId = true) (h : exec ⟨pg, ct, ow, 26, anL [(6, [0, 0, 3, 7, 0, 0, 48, 112, 255])]⟩ code ⟨argE args, hOf []⟩ (PostF pg.prog ad [.tmp 4] r [])) : PCall pg 76 args r := pcall_inF ad hc fol 76 n76 hb rfl e76 rfl (bodyOk_at o76 hb rfl) ha hr h
theorem n78 : Tryz.prog.funcs[78]? = some Tryz.f78 := by kernel_rfl
theorem e78 : entB Tryz.prog 78 = true := by kernel_rfl
theorem o78 : bodyOk (anL [(3, [0, 0, 2, 6, 14, 1, 63, 127]), (4, [0, 1, 3, 7, 0, 16, 48, 112, 255, 511]), (10, [0, 1, 3, 7, 15, 31, 0, 64, 192, 448, 1023]), (11, [0, 0, 2, 6, 14, 1, 63, 127])]) Tryz.f78 = true := by kernel_rfl
theorem w78 {ct : Ct} (ow : Nat → Bool) (ad : List Adj) {code : Code} (hb : Tryz.f78.body = some code) (hc : CtOk pg ct) {args : List V} {r : V} (ha : Nat.ble args.length 92 = true) (hr : r.noId = true) (h : exec ⟨pg, ct, ow, 92, anL [(3, [0, 0, 2, 6, 14, 1, 63, 127]), (4, [0, 1, 3, 7, 0, 16, 48, 112, 255, 511]), (10, [0, 1, 3, 7, 15, 31, 0, 64, 192, 448, 1023]), (11, [0, 0, 2, 6, 14, 1, 63, 127])]⟩ code ⟨argE args, hOf []⟩ (PostF pg.prog ad [.cell 4 41, .tmp 5, .tmp 6] r [])) : PCall pg 78 args r := pcall_inF ad hc fol 78 n78 hb rfl e78 rfl (bodyOk_at o78 hb rfl) ha hr h
theorem n79 : Tryz.prog.funcs[79]? = some Tryz.f79 := by kernel_rfl
theorem e79 : entB Tryz.prog 79 = true := by kernel_rfl
theorem o79 : bodyOk (anL [(10, [0, 0, 2, 7, 0, 0, 32, 0, 0, 384, 992, 2016, 4095, 8191, 16383])]) Tryz.f79 = true := by kernel_rfl
theorem w79 {ct : Ct} (ow : Nat → Bool) (ad : List Adj) {code : Code} (hb : Tryz.f79.body = some code) (hc : CtOk pg ct) {args : List V} {r : V} (ha : Nat.ble args.length 52 = true) (hr : r.noId = true) (h : exec ⟨pg, ct, ow, 52, anL [(10, [0, 0, 2, 7, 0, 0, 32, 0, 0, 384, 992, 2016, 4095, 8191, 16383])]⟩ code ⟨argE args, hOf []⟩ (PostF pg.prog ad [.tmp 2, .tmp 3, .tmp 4, .tmp 5] r [])) : PCall pg 79 args r := pcall_inF ad hc fol 79 n79 hb rfl e79 rfl (bodyOk_at o79 hb rfl) ha hr h
theorem n81 : Tryz.prog.funcs[81]? = some Tryz.f81 := by kernel_rfl
theorem e81 : entB Tryz.prog 81 = true := by kernel_rfl
theorem o81 : bodyOk (anL []) Tryz.f81 = true := by kernel_rfl
theorem fw81 {ct : Ct} (ow : Nat → Bool) (ad : List Adj) {code : Code} (hb : Tryz.f81.body = some code) (hc : CtOk pg ct) {args : List V} {hl hl' : HL} {r : V} (ha : Nat.ble args.length 15 = true) (hlo : ∀ p ∈ hl, 9000 ≤ p.1) (hin : hlIn (idsIn hl) hl') (hr : V.menIn (idsIn hl) r = true) (h : exec ⟨pg, ct, ow, 15, anL []⟩ code ⟨argE args, hOf hl⟩ (PostF pg.prog ad [] r hl')) : FCall pg 81 args hl r hl' := fcall_inF ad hc fol 81 n81 hb rfl e81 rfl (bodyOk_at o81 hb rfl) ha hlo hin hr h
theorem n84 : Tryz.prog.funcs[84]? = some Tryz.f84 := by kernel_rfl
theorem e84 : entB Tryz.prog 84 = true := by kernel_rfl
theorem o84 : bodyOk (anL []) Tryz.f84 = true := by kernel_rfl
theorem fw84 {ct : Ct} (ow : Nat → Bool) (ad : List Adj) {code : Code} (hb : Tryz.f84.body = some code) (hc : CtOk pg ct) {args : List V} {hl hl' : HL} {r : V} (ha : Nat.ble args.length 12 = true) (hlo : ∀ p ∈ hl, 9000 ≤ p.1) (hin : hlIn (idsIn hl) hl') (hr : V.menIn (idsIn hl) r = true) (h : exec ⟨pg, ct, ow, 12, anL []⟩ code ⟨argE args, hOf hl⟩ (PostF pg.prog ad [] r hl')) : FCall pg 84 args hl r hl' := fcall_inF ad hc fol 84 n84 hb rfl e84 rfl (bodyOk_at o84 hb rfl) ha hlo hin hr h
theorem n85 : Tryz.prog.funcs[85]? = some Tryz.f85 := by kernel_rfl
theorem e85 : entB Tryz.prog 85 = true := by kernel_rfl
theorem o85 : bodyOk (anL []) Tryz.f85 = true := by kernel_rfl
theorem w85 {ct : Ct} (ow : Nat → Bool) (ad : List Adj) {code : Code} (hb : Tryz.f85.body = some code) (hc : CtOk pg ct) {args : List V} {r : V} (ha : Nat.ble args.length 2 = true) (hr : r.noId = true) (h : exec ⟨pg, ct, ow, 2, anL []⟩ code ⟨argE args, hOf []⟩ (PostF pg.prog ad [.tmp 0] r [])) : PCall pg 85 args r := pcall_inF ad hc fol 85 n85 hb rfl e85 rfl (bodyOk_at o85 hb rfl) ha hr h
theorem n86 : Tryz.prog.funcs[86]? = some Tryz.f86 := by kernel_rfl
theorem e86 : entB Tryz.prog 86 = true := by kernel_rfl
theorem o86 : bodyOk (anL []) Tryz.f86 = true := by kernel_rfl
theorem w86 {ct : Ct} (ow : Nat → Bool) (ad : List Adj) {code : Code} (hb : Tryz.f86.body = some code) (hc : CtOk pg ct) {args : List V} {r : V} (ha : Nat.ble args.length 9 = true) (hr : r.noId = true) (h : exec ⟨pg, ct, ow, 9, anL []⟩ code ⟨argE args, hOf []⟩ (PostF pg.prog ad [.tmp 2, .tmp 3] r [])) : PCall pg 86 args r := pcall_inF ad hc fol 86 n86 hb rfl e86 rfl (bodyOk_at o86 hb rfl) ha hr h
theorem n87 : Tryz.prog.funcs[87]? = some Tryz.f87 := by kernel_rfl
theorem e87 : entB Tryz.prog 87 = true := by kernel_rfl
theorem o87 : bodyOk (anL []) Tryz.f87 = true := by kernel_rfl
theorem w87 {ct : Ct} (ow : Nat → Bool) (ad : List Adj) {code : Code} (hb : Tryz.f87.body = some code) (hc : CtOk pg ct) {args : List V} {r : V} (ha : Nat.ble args.length 6 = true) (hr : r.noId = true) (h : exec ⟨pg, ct, ow, 6, anL []⟩ code ⟨argE args, hOf []⟩ (PostF pg.prog ad [.tmp 2] r [])) : PCall pg 87 args r := pcall_inF ad hc fol 87 n87 hb rfl e87 rfl (bodyOk_at o87 hb rfl) ha hr h
theorem n88 : Tryz.prog.funcs[88]? = some Tryz.f88 := by kernel_rfl
theorem e88 : entB Tryz.prog 88 = true := by kernel_rfl
theorem o88 : bodyOk (anL [(4, [0, 0, 2, 6, 14, 30, 0, 64, 206, 510, 1022, 0, 2048, 8190, 16382, 32767, 65535]), (8, [0, 0, 2, 0, 14, 30, 62, 126, 0, 256, 0, 1792, 3840, 7936, 16382, 32766, 65535, 131071]), (9, [0, 0, 2, 6, 14, 30, 62, 0, 128, 414, 1022, 2046, 4095, 8191])]) Tryz.f88 = true := by kernel_rfl
theorem w88 {ct : Ct} (ow : Nat → Bool) (ad : List Adj) {code : Code} (hb : Tryz.f88.body = some code) (hc : CtOk pg ct) {args : List V} {r : V} (ha : Nat.ble args.length 79 = true) (hr : r.noId = true) (h : exec ⟨pg, ct, ow, 79, anL [(4, [0, 0, 2, 6, 14, 30, 0, 64, 206, 510, 1022, 0, 2048, 8190, 16382, 32767, 65535]), (8, [0, 0, 2, 0, 14, 30, 62, 126, 0, 256, 0, 1792, 3840, 7936, 16382, 32766, 65535, 131071]), (9, [0, 0, 2, 6, 14, 30, 62, 0, 128, 414, 1022, 2046, 4095, 8191])]⟩ code ⟨argE args, hOf []⟩ (PostF pg.prog ad [.tmp 2] r [])) : PCall pg 88 args r := pcall_inF ad hc fol 88 n88 hb rfl e88 rfl (bodyOk_at o88 hb rfl) ha hr h
theorem n94 : Tryz.prog.funcs[94]? = some Tryz.f94 := by kernel_rfl
theorem e94 : entB Tryz.prog 94 = true := by kernel_rfl
theorem o94 : bodyOk (anL []) Tryz.f94 = true := by kernel_rfl
theorem w94 {ct : Ct} (ow : Nat → Bool) (ad : List Adj) {code : Code} (hb : Tryz.f94.body = some code) (hc : CtOk pg ct) {args : List V} {r : V} (ha : Nat.ble args.length 30 = true) (hr : r.noId = true) (h : exec ⟨pg, ct, ow, 30, anL []⟩ code ⟨argE args, hOf []⟩ (PostF pg.prog ad [.tmp 2] r [])) : PCall pg 94 args r := pcall_inF ad hc fol 94 n94 hb rfl e94 rfl (bodyOk_at o94 hb rfl) ha hr h
theorem n95 : Tryz.prog.funcs[95]? = some Tryz.f95 := by kernel_rfl
theorem e95 : entB Tryz.prog 95 = true := by kernel_rfl
theorem o95 : bodyOk (anL []) Tryz.f95 = true := by kernel_rfl
theorem w95 {ct : Ct} (ow : Nat → Bool) (ad : List Adj) {code : Code} (hb : Tryz.f95.body = some code) (hc : CtOk pg ct) {args : List V} {r : V} (ha : Nat.ble args.length 9 = true) (hr : r.noId = true) (h : exec ⟨pg, ct, ow, 9, anL []⟩ code ⟨argE args, hOf []⟩ (PostF pg.prog ad [.tmp 2] r [])) : PCall pg 95 args r := pcall_inF ad hc fol 95 n95 hb rfl e95 rfl (bodyOk_at o95 hb rfl) ha hr h
theorem n96 : Tryz.prog.funcs[96]? = some Tryz.f96 := by kernel_rfl
theorem e96 : entB Tryz.prog 96 = true := by kernel_rfl
theorem o96 : bodyOk (anL []) Tryz.f96 = true := by kernel_rfl
theorem w96 {ct : Ct} (ow : Nat → Bool) (ad : List Adj) {code : Code} (hb : Tryz.f96.body = some code) (hc : CtOk pg ct) {args : List V} {r : V} (ha : Nat.ble args.length 28 = true) (hr : r.noId = true) (h : exec ⟨pg, ct, ow, 28, anL []⟩ code ⟨argE args, hOf []⟩ (PostF pg.prog ad [.tmp 2] r [])) : PCall pg 96 args r := pcall_inF ad hc fol 96 n96 hb rfl e96 rfl (bodyOk_at o96 hb rfl) ha hr h
theorem n97 : Tryz.prog.funcs[97]? = some Tryz.f97 := by kernel_rfl
theorem e97 : entB Tryz.prog 97 = true := by kernel_rfl
theorem o97 : bodyOk (anL []) Tryz.f97 = true := by kernel_rfl
theorem w97 {ct : Ct} (ow : Nat → Bool) (ad : List Adj) {code : Code} (hb : Tryz.f97.body = some code) (hc : CtOk pg ct) {args : List V} {r : V} (ha : Nat.ble args.length 23 = true) (hr : r.noId = true) (h : exec ⟨pg, ct, ow, 23, anL []⟩ code ⟨argE args, hOf []⟩ (PostF pg.prog ad [.tmp 2] r [])) : PCall pg 97 args r := pcall_inF ad hc fol 97 n97 hb rfl e97 rfl (bodyOk_at o97 hb rfl) ha hr h
theorem n98 : Tryz.prog.funcs[98]? = some Tryz.f98 := by kernel_rfl
theorem e98 : entB Tryz.prog 98 = true := by kernel_rfl
theorem o98 : bodyOk (anL []) Tryz.f98 = true := by kernel_rfl
theorem w98 {ct : Ct} (ow : Nat → Bool) (ad : List Adj) {code : Code} (hb : Tryz.f98.body = some code) (hc : CtOk pg ct) {args : List V} {r : V} (ha : Nat.ble args.length 2 = true) (hr : r.noId = true) (h : exec ⟨pg, ct, ow, 2, anL []⟩ code ⟨argE args, hOf []⟩ (PostF pg.prog ad [.tmp 0] r [])) : PCall pg 98 args r := pcall_inF ad hc fol 98 n98 hb rfl e98 rfl (bodyOk_at o98 hb rfl) ha hr h
theorem n99 : Tryz.prog.funcs[99]? = some Tryz.f99 := by kernel_rfl
theorem e99 : entB Tryz.prog 99 = true := by kernel_rfl
theorem o99 : bodyOk (anL []) Tryz.f99 = true := by kernel_rfl
theorem w99 {ct : Ct} (ow : Nat → Bool) (ad : List Adj) {code : Code} (hb : Tryz.f99.body = some code) (hc : CtOk pg ct) {args : List V} {r : V} (ha : Nat.ble args.length 19 = true) (hr : r.noId = true) (h : exec ⟨pg, ct, ow, 19, anL []⟩ code ⟨argE args, hOf []⟩ (PostF pg.prog ad [.tmp 4] r [])) : PCall pg 99 args r := pcall_inF ad hc fol 99 n99 hb rfl e99 rfl (bodyOk_at o99 hb rfl) ha hr h
theorem n105 : Tryz.prog.funcs[105]? = some Tryz.f105 := by kernel_rfl
theorem e105 : entB Tryz.prog 105 = true := by kernel_rfl
theorem o105 : bodyOk (anL []) Tryz.f105 = true := by kernel_rfl
theorem w105 {ct : Ct} (ow : Nat → Bool) (ad : List Adj) {code : Code} (hb : Tryz.f105.body = some code) (hc : CtOk pg ct) {args : List V} {r : V} (ha : Nat.ble args.length 23 = true) (hr : r.noId = true) (h : exec ⟨pg, ct, ow, 23, anL []⟩ code ⟨argE args, hOf []⟩ (PostF pg.prog ad [.tmp 2] r [])) : PCall pg 105 args r := pcall_inF ad hc fol 105 n105 hb rfl e105 rfl (bodyOk_at o105 hb rfl) ha hr h
theorem n106 : Tryz.prog.funcs[106]? = some Tryz.f106 := by kernel_rfl
theorem e106 : entB Tryz.prog 106 = true := by kernel_rfl
theorem o106 : bodyOk (anL []) Tryz.f106 = true := by kernel_rfl
theorem w106 {ct : Ct} (ow : Nat → Bool) (ad : List Adj) {code : Code} (hb : Tryz.f106.body = some code) (hc : CtOk pg ct) {args : List V} {r : V} (ha : Nat.ble args.length 27 = true) (hr : r.noId = true) (h : exec ⟨pg, ct, ow, 27, anL []⟩ code ⟨argE args, hOf []⟩ (PostF pg.prog ad [.tmp 2] r [])) : PCall pg 106 args r := pcall_inF ad hc fol 106 n106 hb rfl e106 rfl (bodyOk_at o106 hb rfl) ha hr h
theorem n107 : Tryz.prog.funcs[107]? = some Tryz.f107 := by kernel_rfl
theorem e107 : entB Tryz.prog 107 = true := by kernel_rfl
theorem o107 : bodyOk (anL []) Tryz.f107 = true := by kernel_rfl
theorem w107 {ct : Ct} (ow : Nat → Bool) (ad : List Adj) {code : Code} (hb : Tryz.f107.body = some code) (hc : CtOk pg ct) {args : List V} {r : V} (ha : Nat.ble args.length 33 = true) (hr : r.noId = true) (h : exec ⟨pg, ct, ow, 33, anL []⟩ code ⟨argE args, hOf []⟩ (PostF pg.prog ad [.tmp 2] r [])) : PCall pg 107 args r := pcall_inF ad hc fol 107 n107 hb rfl e107 rfl (bodyOk_at o107 hb rfl) ha hr h
theorem n109 : Tryz.prog.funcs[109]? = some Tryz.f109 := by kernel_rfl
theorem e109 : entB Tryz.prog 109 = true := by kernel_rfl
theorem o109 : bodyOk (anL [(2, [0, 1, 3, 7, 15, 15, 15, 79, 207, 463, 1007, 2047, 4095, 8191]), (6, [0, 0, 3, 7, 15, 15, 63, 127, 255, 511, 511, 511, 2559, 6655, 14847, 32255, 65535, 131071, 262143, 524287, 1048575, 2097151, 4194303, 8388607, 8388607, 33554431, 67108863, 134217727, 268435455, 268435455, 1073741823, 2147483647, 4294967295, 8589934591, 17179869183, 34359738367, 68719476735])]) Tryz.f109 = true := by kernel_rfl
theorem fw109 {ct : Ct} (ow : Nat → Bool) (ad : List Adj) {code : Code} (hb : Tryz.f109.body = some code) (hc : CtOk pg ct) {args : List V} {hl hl' : HL} {r : V} (ha : Nat.ble args.length 62 = true) (hlo : ∀ p ∈ hl, 9000 ≤ p.1) (hin : hlIn (idsIn hl) hl') (hr : V.menIn (idsIn hl) r = true) (h : exec ⟨pg, ct, ow, 62, anL [(2, [0, 1, 3, 7, 15, 15, 15, 79, 207, 463, 1007, 2047, 4095, 8191]), (6, [0, 0, 3, 7, 15, 15, 63, 127, 255, 511, 511, 511, 2559, 6655, 14847, 32255, 65535, 131071, 262143, 524287, 1048575, 2097151, 4194303, 8388607, 8388607, 33554431, 67108863, 134217727, 268435455, 268435455, 1073741823, 2147483647, 4294967295, 8589934591, 17179869183, 34359738367, 68719476735])]⟩ code ⟨argE args, hOf hl⟩ (PostF pg.prog ad [.tmp 2] r hl')) : FCall pg 109 args hl r hl' := fcall_inF ad hc fol 109 n109 hb rfl e109 rfl (bodyOk_at o109 hb rfl) ha hlo hin hr h
theorem n111 : Tryz.prog.funcs[111]? = some Tryz.f111 := by kernel_rfl
theorem e111 : entB Tryz.prog 111 = true := by kernel_rfl
theorem o111 : bodyOk (anL []) Tryz.f111 = true := by kernel_rfl
theorem w111 {ct : Ct} (ow : Nat → Bool) (ad : List Adj) {code : Code} (hb : Tryz.f111.body = some code) (hc : CtOk pg ct) {args : List V} {r : V} (ha : Nat.ble args.length 37 = true) (hr : r.noId = true) (h : exec ⟨pg, ct, ow, 37, anL []⟩ code ⟨argE args, hOf []⟩ (PostF pg.prog ad [.tmp 2] r [])) : PCall pg 111 args r := pcall_inF ad hc fol 111 n111 hb rfl e111 rfl (bodyOk_at o111 hb rfl) ha hr h
theorem n116 : Tryz.prog.funcs[116]? = some Tryz.f116 := by kernel_rfl
theorem e116 : entB Tryz.prog 116 = true := by kernel_rfl
theorem o116 : bodyOk (anL [(2, [0, 0, 2, 6, 14, 31, 63, 127, 0, 256, 769, 2047, 4095, 1793, 0, 16384, 49152, 124673, 255745, 524287, 1048575, 0, 2097152, 6301441, 16777215, 33554431, 0, 67108864, 216016641, 536870911, 1073741823, 0, 2147483648, 6926903041, 17179869183, 34359738367, 0, 68719476736, 221675267841, 549755813887, 1099511627775, 2199023255551])]) Tryz.f116 = true := by kernel_rfl
theorem w116 {ct : Ct} (ow : Nat → Bool) (ad : List Adj) {code : Code} (hb : Tryz.f116.body = some code) (hc : CtOk pg ct) {args : List V} {r : V} (ha : Nat.ble args.length 47 = true) (hr : r.noId = true) (h : exec ⟨pg, ct, ow, 47, anL [(2, [0, 0, 2, 6, 14, 31, 63, 127, 0, 256, 769, 2047, 4095, 1793, 0, 16384, 49152, 124673, 255745, 524287, 1048575, 0, 2097152, 6301441, 16777215, 33554431, 0, 67108864, 216016641, 536870911, 1073741823, 0, 2147483648, 6926903041, 17179869183, 34359738367, 0, 68719476736, 221675267841, 549755813887, 1099511627775, 2199023255551])]⟩ code ⟨argE args, hOf []⟩ (PostF pg.prog ad [.tmp 2] r [])) : PCall pg 116 args r := pcall_inF ad hc fol 116 n116 hb rfl e116 rfl (bodyOk_at o116 hb rfl) ha hr h
theorem n117 : Tryz.prog.funcs[117]? = some Tryz.f117 := by kernel_rfl
theorem e117 : entB Tryz.prog 117 = true := by kernel_rfl
theorem o117 : bodyOk (anL []) Tryz.f117 = true := by kernel_rfl
theorem w117 {ct : Ct} (ow : Nat → Bool) (ad : List Adj) {code : Code} (hb : Tryz.f117.body = some code) (hc : CtOk pg ct) {args : List V} {r : V} (ha : Nat.ble args.length 23 = true) (hr : r.noId = true) (h : exec ⟨pg, ct, ow, 23, anL []⟩ code ⟨argE args, hOf []⟩ (PostF pg.prog ad [.tmp 2] r [])) : PCall pg 117 args r := pcall_inF ad hc fol 117 n117 hb rfl e117 rfl (bodyOk_at o117 hb rfl) ha hr h
theorem n118 : Tryz.prog.funcs[118]? = some Tryz.f118 := by kernel_rfl
theorem e118 : entB Tryz.prog 118 = true := by kernel_rfl
theorem o118 : bodyOk (anL []) Tryz.f118 = true := by kernel_rfl
theorem w118 {ct : Ct} (ow : Nat → Bool) (ad : List Adj) {code : Code} (hb : Tryz.f118.body = some code) (hc : CtOk pg ct) {args : List V} {r : V} (ha : Nat.ble args.length 20 = true) (hr : r.noId = true) (h : exec ⟨pg, ct, ow, 20, anL []⟩ code ⟨argE args, hOf []⟩ (PostF pg.prog ad [.tmp 2] r [])) : PCall pg 118 args r := pcall_inF ad hc fol 118 n118 hb rfl e118 rfl (bodyOk_at o118 hb rfl) ha hr h
theorem n119 : Tryz.prog.funcs[119]? = some Tryz.f119 := by kernel_rfl
theorem e119 : entB Tryz.prog 119 = true := by kernel_rfl
theorem o119 : bodyOk (anL []) Tryz.f119 = true := by kernel_rfl
theorem w119 {ct : Ct} (ow : Nat → Bool) (ad : List Adj) {code : Code} (hb : Tryz.f119.body = some code) (hc : CtOk pg ct) {args : List V} {r : V} (ha : Nat.ble args.length 8 = true) (hr : r.noId = true) (h : exec ⟨pg, ct, ow, 8, anL []⟩ code ⟨argE args, hOf []⟩ (PostF pg.prog ad [.tmp 2] r [])) : PCall pg 119 args r := pcall_inF ad hc fol 119 n119 hb rfl e119 rfl (bodyOk_at o119 hb rfl) ha hr h
theorem n120 : Tryz.prog.funcs[120]? = some Tryz.f120 := by kernel_rfl
theorem e120 : entB Tryz.prog 120 = true := by kernel_rfl
theorem o120 : bodyOk (anL [(10, [0, 1, 0, 4, 12, 31, 63, 0, 128, 384, 1023, 2047, 0, 4992, 16383, 32767, 0, 65536, 209792, 524287, 0, 1520512, 4194303, 8388607, 0, 16777216, 53949312, 134217727, 268435455, 0, 536870912, 1610612736, 3879154560, 8589934591, 17179869183, 0, 34359738368, 111253336960, 274877906943, 549755813887, 1099511627775])]) Tryz.f120 = true := by kernel_rfl
theorem w120 {ct : Ct} (ow : Nat → Bool) (ad : List Adj) {code : Code} (hb : Tryz.f120.body = some code) (hc : CtOk pg ct) {args : List V} {r : V} (ha : Nat.ble args.length 77 = true) (hr : r.noId = true) (h : exec ⟨pg, ct, ow, 77, anL [(10, [0, 1, 0, 4, 12, 31, 63, 0, 128, 384, 1023, 2047, 0, 4992, 16383, 32767, 0, 65536, 209792, 524287, 0, 1520512, 4194303, 8388607, 0, 16777216, 53949312, 134217727, 268435455, 0, 536870912, 1610612736, 3879154560, 8589934591, 17179869183, 0, 34359738368, 111253336960, 274877906943, 549755813887, 1099511627775])]⟩ code ⟨argE args, hOf []⟩ (PostF pg.prog ad [.tmp 2] r [])) : PCall pg 120 args r := pcall_inF ad hc fol 120 n120 hb rfl e120 rfl (bodyOk_at o120 hb rfl) ha hr h
theorem n128 : Tryz.prog.funcs[128]? = some Tryz.f128 := by kernel_rfl
theorem e128 : entB Tryz.prog 128 = true := by kernel_rfl
theorem o128 : bodyOk (anL []) Tryz.f128 = true := by kernel_rfl
theorem w128 {ct : Ct} (ow : Nat → Bool) (ad : List Adj) {code : Code} (hb : Tryz.f128.body = some code) (hc : CtOk pg ct) {args : List V} {r : V} (ha : Nat.ble args.length 50 = true) (hr : r.noId = true) (h : exec ⟨pg, ct, ow, 50, anL []⟩ code ⟨argE args, hOf []⟩ (PostF pg.prog ad [.tmp 2] r [])) : PCall pg 128 args r := pcall_inF ad hc fol 128 n128 hb rfl e128 rfl (bodyOk_at o128 hb rfl) ha hr h
theorem n129 : Tryz.prog.funcs[129]? = some Tryz.f129 := by kernel_rfl
theorem e129 : entB Tryz.prog 129 = true := by kernel_rfl
theorem o129 : bodyOk (anL []) Tryz.f129 = true := by kernel_rfl
theorem w129 {ct : Ct} (ow : Nat → Bool) (ad : List Adj) {code : Code} (hb : Tryz.f129.body = some code) (hc : CtOk pg ct) {args : List V} {r : V} (ha : Nat.ble args.length 35 = true) (hr : r.noId = true) (h : exec ⟨pg, ct, ow, 35, anL []⟩ code ⟨argE args, hOf []⟩ (PostF pg.prog ad [.tmp 2] r [])) : PCall pg 129 args r := pcall_inF ad hc fol 129 n129 hb rfl e129 rfl (bodyOk_at o129 hb rfl) ha hr h
theorem n130 : Tryz.prog.funcs[130]? = some Tryz.f130 := by kernel_rfl
theorem e130 : entB Tryz.prog 130 = true := by kernel_rfl
theorem o130 : bodyOk (anL []) Tryz.f130 = true := by kernel_rfl
theorem w130 {ct : Ct} (ow : Nat → Bool) (ad : List Adj) {code : Code} (hb : Tryz.f130.body = some code) (hc : CtOk pg ct) {args : List V} {r : V} (ha : Nat.ble args.length 28 = true) (hr : r.noId = true) (h : exec ⟨pg, ct, ow, 28, anL []⟩ code ⟨argE args, hOf []⟩ (PostF pg.prog ad [.tmp 4] r [])) : PCall pg 130 args r := pcall_inF ad hc fol 130 n130 hb rfl e130 rfl (bodyOk_at o130 hb rfl) ha hr h
theorem n133 : Tryz.prog.funcs[133]? = some Tryz.f133 := by kernel_rfl
theorem e133 : entB Tryz.prog 133 = true := by kernel_rfl
theorem o133 : bodyOk (anL []) Tryz.f133 = true := by kernel_rfl
theorem w133 {ct : Ct} (ow : Nat → Bool) (ad : List Adj) {code : Code} (hb : Tryz.f133.body = some code) (hc : CtOk pg ct) {args : List V} {r : V} (ha : Nat.ble args.length 45 = true) (hr : r.noId = true) (h : exec ⟨pg, ct, ow, 45, anL []⟩ code ⟨argE args, hOf []⟩ (PostF pg.prog ad [.tmp 2] r [])) : PCall pg 133 args r := pcall_inF ad hc fol 133 n133 hb rfl e133 rfl (bodyOk_at o133 hb rfl) ha hr h
theorem n134 : Tryz.prog.funcs[134]? = some Tryz.f134 := by kernel_rfl
theorem e134 : entB Tryz.prog 134 = true := by kernel_rfl
theorem o134 : bodyOk (anL []) Tryz.f134 = true := by kernel_rfl
theorem w134 {ct : Ct} (ow : Nat → Bool) (ad : List Adj) {code : Code} (hb : Tryz.f134.body = some code) (hc : CtOk pg ct) {args : List V} {r : V} (ha : Nat.ble args.length 35 = true) (hr : r.noId = true) (h : exec ⟨pg, ct, ow, 35, anL []⟩ code ⟨argE args, hOf []⟩ (PostF pg.prog ad [.tmp 2] r [])) : PCall pg 134 args r := pcall_inF ad hc fol 134 n134 hb rfl e134 rfl (bodyOk_at o134 hb rfl) ha hr h
theorem n136 : Tryz.prog.funcs[136]? = some Tryz.f136 := by kernel_rfl
theorem e136 : entB Tryz.prog 136 = true := by kernel_rfl
theorem o136 : bodyOk (anL []) Tryz.f136 = true := by kernel_rfl
theorem nw136 {ct : Ct} (ow : Nat → Bool) (ad : List Adj) {code : Code} (hb : Tryz.f136.body = some code) (hc : CtOk pg ct) {args : List V} {r : V} {nb : Blk} (ha : Nat.ble args.length 4 = true) (hr : r.newOk = true) (hnb : noIdB nb) (h : exec ⟨pg, ct, ow, 4, anL []⟩ code ⟨argE args, hOf []⟩ (PostF pg.prog ad [.tmp 2] r [(8999, nb)])) : NCall pg 136 args r nb := ncall_inF ad hc fol 136 n136 hb rfl e136 rfl (bodyOk_at o136 hb rfl) ha hr hnb h
theorem n137 : Tryz.prog.funcs[137]? = some Tryz.f137 := by kernel_rfl
theorem e137 : entB Tryz.prog 137 = true := by kernel_rfl
theorem o137 : bodyOk (anL []) Tryz.f137 = true := by kernel_rfl
theorem fw137 {ct : Ct} (ow : Nat → Bool) (ad : List Adj) {code : Code} (hb : Tryz.f137.body = some code) (hc : CtOk pg ct) {args : List V} {hl hl' : HL} {r : V} (ha : Nat.ble args.length 7 = true) (hlo : ∀ p ∈ hl, 9000 ≤ p.1) (hin : hlIn (idsIn hl) hl') (hr : V.menIn (idsIn hl) r = true) (h : exec ⟨pg, ct, ow, 7, anL []⟩ code ⟨argE args, hOf hl⟩ (PostF pg.prog ad [.tmp 3] r hl')) : FCall pg 137 args hl r hl' := fcall_inF ad hc fol 137 n137 hb rfl e137 rfl (bodyOk_at o137 hb rfl) ha hlo hin hr h
theorem n138 : Tryz.prog.funcs[138]? = some Tryz.f138 := by kernel_rfl
theorem e138 : entB Tryz.prog 138 = true := by kernel_rfl
theorem o138 : bodyOk (anL [(1, [0, 1, 3, 7, 0, 16, 48, 112, 255, 511, 1023, 1023, 1023, 2047, 12287, 32767])]) Tryz.f138 = true := by kernel_rfl
theorem fw138 {ct : Ct} (ow : Nat → Bool) (ad : List Adj) {code : Code} (hb : Tryz.f138.body = some code) (hc : CtOk pg ct) {args : List V} {hl hl' : HL} {r : V} (ha : Nat.ble args.length 32 = true) (hlo : ∀ p ∈ hl, 9000 ≤ p.1) (hin : hlIn (idsIn hl) hl') (hr : V.menIn (idsIn hl) r = true) (h : exec ⟨pg, ct, ow, 32, anL [(1, [0, 1, 3, 7, 0, 16, 48, 112, 255, 511, 1023, 1023, 1023, 2047, 12287, 32767])]⟩ code ⟨argE args, hOf hl⟩ (PostF pg.prog ad [.tmp 4] r hl')) : FCall pg 138 args hl r hl' := fcall_inF ad hc fol 138 n138 hb rfl e138 rfl (bodyOk_at o138 hb rfl) ha hlo hin hr h
theorem n139 : Tryz.prog.funcs[139]? = some Tryz.f139 := by kernel_rfl
theorem e139 : entB Tryz.prog 139 = true := by kernel_rfl
theorem o139 : bodyOk (anL [(1, [0, 1, 3, 7, 0, 16, 48, 112, 255, 511, 1023, 1023, 1023, 2047, 12287, 32767])]) Tryz.f139 = true := by kernel_rfl
theorem fw139 {ct : Ct} (ow : Nat → Bool) (ad : List Adj) {code : Code} (hb : Tryz.f139.body = some code) (hc : CtOk pg ct) {args : List V} {hl hl' : HL} {r : V} (ha : Nat.ble args.length 48 = true) (hlo : ∀ p ∈ hl, 9000 ≤ p.1) (hin : hlIn (idsIn hl) hl') (hr : V.menIn (idsIn hl) r = true) (h : exec ⟨pg, ct, ow, 48, anL [(1, [0, 1, 3, 7, 0, 16, 48, 112, 255, 511, 1023, 1023, 1023, 2047, 12287, 32767])]⟩ code ⟨argE args, hOf hl⟩ (PostF pg.prog ad [.tmp 6] r hl')) : FCall pg 139 args hl r hl' := fcall_inF ad hc fol 139 n139 hb rfl e139 rfl (bodyOk_at o139 hb rfl) ha hlo hin hr h
theorem n140 : Tryz.prog.funcs[140]? = some Tryz.f140 := by kernel_rfl
theorem e140 : entB Tryz.prog 140 = true := by kernel_rfl
theorem o140 : bodyOk (anL [(1, [0, 1, 3, 7, 0, 16, 48, 112, 0, 256, 768, 1792, 3840, 0, 8192, 24576, 57344, 0, 131072, 516096, 1040384, 2096896, 4194303, 8388607, 0, 16777216, 67108863, 134217727])]) Tryz.f140 = true := by kernel_rfl
theorem fw140 {ct : Ct} (ow : Nat → Bool) (ad : List Adj) {code : Code} (hb : Tryz.f140.body = some code) (hc : CtOk pg ct) {args : List V} {hl hl' : HL} {r : V} (ha : Nat.ble args.length 32 = true) (hlo : ∀ p ∈ hl, 9000 ≤ p.1) (hin : hlIn (idsIn hl) hl') (hr : V.menIn (idsIn hl) r = true) (h : exec ⟨pg, ct, ow, 32, anL [(1, [0, 1, 3, 7, 0, 16, 48, 112, 0, 256, 768, 1792, 3840, 0, 8192, 24576, 57344, 0, 131072, 516096, 1040384, 2096896, 4194303, 8388607, 0, 16777216, 67108863, 134217727])]⟩ code ⟨argE args, hOf hl⟩ (PostF pg.prog ad [.tmp 4] r hl')) : FCall pg 140 args hl r hl' := fcall_inF ad hc fol 140 n140 hb rfl e140 rfl (bodyOk_at o140 hb rfl) ha hlo hin hr h
theorem n141 : Tryz.prog.funcs[141]? = some Tryz.f141 := by kernel_rfl
theorem e141 : entB Tryz.prog 141 = true := by kernel_rfl
theorem o141 : bodyOk (anL []) Tryz.f141 = true := by kernel_rfl
theorem fw141 {ct : Ct} (ow : Nat → Bool) (ad : List Adj) {code : Code} (hb : Tryz.f141.body = some code) (hc : CtOk pg ct) {args : List V} {hl hl' : HL} {r : V} (ha : Nat.ble args.length 11 = true) (hlo : ∀ p ∈ hl, 9000 ≤ p.1) (hin : hlIn (idsIn hl) hl') (hr : V.menIn (idsIn hl) r = true) (h : exec ⟨pg, ct, ow, 11, anL []⟩ code ⟨argE args, hOf hl⟩ (PostF pg.prog ad [.tmp 3] r hl')) : FCall pg 141 args hl r hl' := fcall_inF ad hc fol 141 n141 hb rfl e141 rfl (bodyOk_at o141 hb rfl) ha hlo hin hr h
theorem n142 : Tryz.prog.funcs[142]? = some Tryz.f142 := by kernel_rfl
theorem e142 : entB Tryz.prog 142 = true := by kernel_rfl
theorem o142 : bodyOk (anL [(1, [0, 0, 0, 6, 14, 31, 63, 127, 255])]) Tryz.f142 = true := by kernel_rfl
theorem fw142 {ct : Ct} (ow : Nat → Bool) (ad : List Adj) {code : Code} (hb : Tryz.f142.body = some code) (hc : CtOk pg ct) {args : List V} {hl hl' : HL} {r : V} (ha : Nat.ble args.length 18 = true) (hlo : ∀ p ∈ hl, 9000 ≤ p.1) (hin : hlIn (idsIn hl) hl') (hr : V.menIn (idsIn hl) r = true) (h : exec ⟨pg, ct, ow, 18, anL [(1, [0, 0, 0, 6, 14, 31, 63, 127, 255])]⟩ code ⟨argE args, hOf hl⟩ (PostF pg.prog ad [.tmp 3] r hl')) : FCall pg 142 args hl r hl' := fcall_inF ad hc fol 142 n142 hb rfl e142 rfl (bodyOk_at o142 hb rfl) ha hlo hin hr h
theorem n143 : Tryz.prog.funcs[143]? = some Tryz.f143 := by kernel_rfl
theorem e143 : entB Tryz.prog 143 = true := by kernel_rfl
theorem o143 : bodyOk (anL []) Tryz.f143 = true := by kernel_rfl
theorem fw143 {ct : Ct} (ow : Nat → Bool) (ad : List Adj) {code : Code} (hb : Tryz.f143.body = some code) (hc : CtOk pg ct) {args : List V} {hl hl' : HL} {r : V} (ha : Nat.ble args.length 18 = true) (hlo : ∀ p ∈ hl, 9000 ≤ p.1) (hin : hlIn (idsIn hl) hl') (hr : V.menIn (idsIn hl) r = true) (h : exec ⟨pg, ct, ow, 18, anL []⟩ code ⟨argE args, hOf hl⟩ (PostF pg.prog ad [.tmp 3] r hl')) : FCall pg 143 args hl r hl' := fcall_inF ad hc fol 143 n143 hb rfl e143 rfl (bodyOk_at o143 hb rfl) ha hlo hin hr h
theorem n144 : Tryz.prog.funcs[144]? = some Tryz.f144 := by kernel_rfl
theorem e144 : entB Tryz.prog 144 = true := by kernel_rfl
theorem o144 : bodyOk (anL []) Tryz.f144 = true := by kernel_rfl
theorem w144 {ct : Ct} (ow : Nat → Bool) (ad : List Adj) {code : Code} (hb : Tryz.f144.body = some code) (hc : CtOk pg ct) {args : List V} {r : V} (ha : Nat.ble args.length 14 = true) (hr : r.noId = true) (h : exec ⟨pg, ct, ow, 14, anL []⟩ code ⟨argE args, hOf []⟩ (PostF pg.prog ad [.tmp 2, .tmp 3] r [])) : PCall pg 144 args r := pcall_inF ad hc fol 144 n144 hb rfl e144 rfl (bodyOk_at o144 hb rfl) ha hr h
theorem n145 : Tryz.prog.funcs[145]? = some Tryz.f145 := by kernel_rfl
theorem e145 : entB Tryz.prog 145 = true := by kernel_rfl
theorem o145 : bodyOk (anL [(2, [0, 1, 3, 7, 0, 16, 48, 112, 255, 511, 1023, 1023, 1023, 2047, 12287, 32767]), (6, [0, 0, 0, 4, 12, 28, 60, 0, 128, 508, 0, 1021, 3069, 7165, 15357, 32767, 65535, 131071])]) Tryz.f145 = true := by kernel_rfl
theorem fw145 {ct : Ct} (ow : Nat → Bool) (ad : List Adj) {code : Code} (hb : Tryz.f145.body = some code) (hc : CtOk pg ct) {args : List V} {hl hl' : HL} {r : V} (ha : Nat.ble args.length 51 = true) (hlo : ∀ p ∈ hl, 9000 ≤ p.1) (hin : hlIn (idsIn hl) hl') (hr : V.menIn (idsIn hl) r = true) (h : exec ⟨pg, ct, ow, 51, anL [(2, [0, 1, 3, 7, 0, 16, 48, 112, 255, 511, 1023, 1023, 1023, 2047, 12287, 32767]), (6, [0, 0, 0, 4, 12, 28, 60, 0, 128, 508, 0, 1021, 3069, 7165, 15357, 32767, 65535, 131071])]⟩ code ⟨argE args, hOf hl⟩ (PostF pg.prog ad [.tmp 2] r hl')) : FCall pg 145 args hl r hl' := fcall_inF ad hc fol 145 n145 hb rfl e145 rfl (bodyOk_at o145 hb rfl) ha hlo hin hr h
theorem n146 : Tryz.prog.funcs[146]? = some Tryz.f146 := by kernel_rfl
theorem e146 : entB Tryz.prog 146 = true := by kernel_rfl
theorem o146 : bodyOk (anL [(3, [0, 0, 2, 6, 14, 14, 31, 95, 223])]) Tryz.f146 = true := by kernel_rfl
theorem fw146 {ct : Ct} (ow : Nat → Bool) (ad : List Adj) {code : Code} (hb : Tryz.f146.body = some code) (hc : CtOk pg ct) {args : List V} {hl hl' : HL} {r : V} (ha : Nat.ble args.length 15 = true) (hlo : ∀ p ∈ hl, 9000 ≤ p.1) (hin : hlIn (idsIn hl) hl') (hr : V.menIn (idsIn hl) r = true) (h : exec ⟨pg, ct, ow, 15, anL [(3, [0, 0, 2, 6, 14, 14, 31, 95, 223])]⟩ code ⟨argE args, hOf hl⟩ (PostF pg.prog ad [.tmp 3] r hl')) : FCall pg 146 args hl r hl' := fcall_inF ad hc fol 146 n146 hb rfl e146 rfl (bodyOk_at o146 hb rfl) ha hlo hin hr h
theorem n147 : Tryz.prog.funcs[147]? = some Tryz.f147 := by kernel_rfl
theorem e147 : entB Tryz.prog 147 = true := by kernel_rfl
theorem o147 : bodyOk (anL []) Tryz.f147 = true := by kernel_rfl
theorem fw147 {ct : Ct} (ow : Nat → Bool) (ad : List Adj) {code : Code} (hb : Tryz.f147.body = some code) (hc : CtOk pg ct) {args : List V} {hl hl' : HL} {r : V} (ha : Nat.ble args.length 10 = true) (hlo : ∀ p ∈ hl, 9000 ≤ p.1) (hin : hlIn (idsIn hl) hl') (hr : V.menIn (idsIn hl) r = true) (h : exec ⟨pg, ct, ow, 10, anL []⟩ code ⟨argE args, hOf hl⟩ (PostF pg.prog ad [.tmp 3] r hl')) : FCall pg 147 args hl r hl' := fcall_inF ad hc fol 147 n147 hb rfl e147 rfl (bodyOk_at o147 hb rfl) ha hlo hin hr h
theorem n148 : Tryz.prog.funcs[148]? = some Tryz.f148 := by kernel_rfl
theorem e148 : entB Tryz.prog 148 = true := by kernel_rfl
theorem o148 : bodyOk (anL []) Tryz.f148 = true := by kernel_rfl
theorem w148 {ct : Ct} (ow : Nat → Bool) (ad : List Adj) {code : Code} (hb : Tryz.f148.body = some code) (hc : CtOk pg ct) {args : List V} {r : V} (ha : Nat.ble args.length 11 = true) (hr : r.noId = true) (h : exec ⟨pg, ct, ow, 11, anL []⟩ code ⟨argE args, hOf []⟩ (PostF pg.prog ad [.tmp 2] r [])) : PCall pg 148 args r := pcall_inF ad hc fol 148 n148 hb rfl e148 rfl (bodyOk_at o148 hb rfl) ha hr h
theorem n161 : Tryz.prog.funcs[161]? = some Tryz.f161 := by kernel_rfl
theorem e161 : entB Tryz.prog 161 = true := by kernel_rfl
theorem o161 : bodyOk (anL []) Tryz.f161 = true := by kernel_rfl
theorem w161 {ct : Ct} (ow : Nat → Bool) (ad : List Adj) {code : Code} (hb : Tryz.f161.body = some code) (hc : CtOk pg ct) {args : List V} {r : V} (ha : Nat.ble args.length 58 = true) (hr : r.noId = true) (h : exec ⟨pg, ct, ow, 58, anL []⟩ code ⟨argE args, hOf []⟩ (PostF pg.prog ad [.cell 2 175] r [])) : PCall pg 161 args r := pcall_inF ad hc fol 161 n161 hb rfl e161 rfl (bodyOk_at o161 hb rfl) ha hr h
theorem n162 : Tryz.prog.funcs[162]? = some Tryz.f162 := by kernel_rfl
theorem e162 : entB Tryz.prog 162 = true := by kernel_rfl
theorem o162 : bodyOk (anL []) Tryz.f162 = true := by kernel_rfl
theorem w162 {ct : Ct} (ow : Nat → Bool) (ad : List Adj) {code : Code} (hb : Tryz.f162.body = some code) (hc : CtOk pg ct) {args : List V} {r : V} (ha : Nat.ble args.length 2 = true) (hr : r.noId = true) (h : exec ⟨pg, ct, ow, 2, anL []⟩ code ⟨argE args, hOf []⟩ (PostF pg.prog ad [.tmp 0] r [])) : PCall pg 162 args r := pcall_inF ad hc fol 162 n162 hb rfl e162 rfl (bodyOk_at o162 hb rfl) ha hr h
theorem n163 : Tryz.prog.funcs[163]? = some Tryz.f163 := by kernel_rfl
theorem e163 : entB Tryz.prog 163 = true := by kernel_rfl
theorem o163 : bodyOk (anL []) Tryz.f163 = true := by kernel_rfl
theorem w163 {ct : Ct} (ow : Nat → Bool) (ad : List Adj) {code : Code} (hb : Tryz.f163.body = some code) (hc : CtOk pg ct) {args : List V} {r : V} (ha : Nat.ble args.length 16 = true) (hr : r.noId = true) (h : exec ⟨pg, ct, ow, 16, anL []⟩ code ⟨argE args, hOf []⟩ (PostF pg.prog ad [.tmp 4] r [])) : PCall pg 163 args r := pcall_inF ad hc fol 163 n163 hb rfl e163 rfl (bodyOk_at o163 hb rfl) ha hr h
theorem n164 : Tryz.prog.funcs[164]? = some Tryz.f164 := by kernel_rfl
theorem e164 : entB Tryz.prog 164 = true := by kernel_rfl
theorem o164 : bodyOk (anL []) Tryz.f164 = true := by kernel_rfl
theorem w164 {ct : Ct} (ow : Nat → Bool) (ad : List Adj) {code : Code} (hb : Tryz.f164.body = some code) (hc : CtOk pg ct) {args : List V} {r : V} (ha : Nat.ble args.length 2 = true) (hr : r.noId = true) (h : exec ⟨pg, ct, ow, 2, anL []⟩ code ⟨argE args, hOf []⟩ (PostF pg.prog ad [.tmp 0] r [])) : PCall pg 164 args r := pcall_inF ad hc fol 164 n164 hb rfl e164 rfl (bodyOk_at o164 hb rfl) ha hr h
theorem n165 : Tryz.prog.funcs[165]? = some Tryz.f165 := by kernel_rfl
theorem e165 : entB Tryz.prog 165 = true := by kernel_rfl
theorem o165 : bodyOk (anL []) Tryz.f165 = true := by kernel_rfl
theorem w165 {ct : Ct} (ow : Nat → Bool) (ad : List Adj) {code : Code} (hb : Tryz.f165.body = some code) (hc : CtOk pg ct) {args : List V} {r : V} (ha : Nat.ble args.length 5 = true) (hr : r.noId = true) (h : exec ⟨pg, ct, ow, 5, anL []⟩ code ⟨argE args, hOf []⟩ (PostF pg.prog ad [.tmp 2] r [])) : PCall pg 165 args r := pcall_inF ad hc fol 165 n165 hb rfl e165 rfl (bodyOk_at o165 hb rfl) ha hr h
theorem n166 : Tryz.prog.funcs[166]? = some Tryz.f166 := by kernel_rfl
theorem e166 : entB Tryz.prog 166 = true := by kernel_rfl
theorem o166 : bodyOk (anL []) Tryz.f166 = true := by kernel_rfl
theorem w166 {ct : Ct} (ow : Nat → Bool) (ad : List Adj) {code : Code} (hb : Tryz.f166.body = some code) (hc : CtOk pg ct) {args : List V} {r : V} (ha : Nat.ble args.length 16 = true) (hr : r.noId = true) (h : exec ⟨pg, ct, ow, 16, anL []⟩ code ⟨argE args, hOf []⟩ (PostF pg.prog ad [.tmp 4] r [])) : PCall pg 166 args r := pcall_inF ad hc fol 166 n166 hb rfl e166 rfl (bodyOk_at o166 hb rfl) ha hr h
theorem n167 : Tryz.prog.funcs[167]? = some Tryz.f167 := by kernel_rfl
theorem e167 : entB Tryz.prog 167 = true := by kernel_rfl
theorem o167 : bodyOk (anL []) Tryz.f167 = true := by kernel_rfl
theorem w167 {ct : Ct} (ow : Nat → Bool) (ad : List Adj) {code : Code} (hb : Tryz.f167.body = some code) (hc : CtOk pg ct) {args : List V} {r : V} (ha : Nat.ble args.length 14 = true) (hr : r.noId = true) (h : exec ⟨pg, ct, ow, 14, anL []⟩ code ⟨argE args, hOf []⟩ (PostF pg.prog ad [.tmp 2] r [])) : PCall pg 167 args r := pcall_inF ad hc fol 167 n167 hb rfl e167 rfl (bodyOk_at o167 hb rfl) ha hr h
theorem n168 : Tryz.prog.funcs[168]? = some Tryz.f168 := by kernel_rfl
theorem e168 : entB Tryz.prog 168 = true := by kernel_rfl
theorem o168 : bodyOk (anL []) Tryz.f168 = true := by kernel_rfl
theorem w168 {ct : Ct} (ow : Nat → Bool) (ad : List Adj) {code : Code} (hb : Tryz.f168.body = some code) (hc : CtOk pg ct) {args : List V} {r : V} (ha : Nat.ble args.length 9 = true) (hr : r.noId = true) (h : exec ⟨pg, ct, ow, 9, anL []⟩ code ⟨argE args, hOf []⟩ (PostF pg.prog ad [.tmp 2] r [])) : PCall pg 168 args r := pcall_inF ad hc fol 168 n168 hb rfl e168 rfl (bodyOk_at o168 hb rfl) ha hr h
theorem n173 : Tryz.prog.funcs[173]? = some Tryz.f173 := by kernel_rfl
theorem e173 : entB Tryz.prog 173 = true := by kernel_rfl
theorem o173 : bodyOk (anL []) Tryz.f173 = true := by kernel_rfl
theorem w173 {ct : Ct} (ow : Nat → Bool) (ad : List Adj) {code : Code} (hb : Tryz.f173.body = some code) (hc : CtOk pg ct) {args : List V} {r : V} (ha : Nat.ble args.length 8 = true) (hr : r.noId = true) (h : exec ⟨pg, ct, ow, 8, anL []⟩ code ⟨argE args, hOf []⟩ (PostF pg.prog ad [.tmp 4] r [])) : PCall pg 173 args r := pcall_inF ad hc fol 173 n173 hb rfl e173 rfl (bodyOk_at o173 hb rfl) ha hr h
theorem n174 : Tryz.prog.funcs[174]? = some Tryz.f174 := by kernel_rfl
theorem e174 : entB Tryz.prog 174 = true := by kernel_rfl
theorem o174 : bodyOk (anL []) Tryz.f174 = true := by kernel_rfl
theorem w174 {ct : Ct} (ow : Nat → Bool) (ad : List Adj) {code : Code} (hb : Tryz.f174.body = some code) (hc : CtOk pg ct) {args : List V} {r : V} (ha : Nat.ble args.length 5 = true) (hr : r.noId = true) (h : exec ⟨pg, ct, ow, 5, anL []⟩ code ⟨argE args, hOf []⟩ (PostF pg.prog ad [.tmp 2] r [])) : PCall pg 174 args r := pcall_inF ad hc fol 174 n174 hb rfl e174 rfl (bodyOk_at o174 hb rfl) ha hr h
theorem n181 : Tryz.prog.funcs[181]? = some Tryz.f181 := by kernel_rfl
theorem e181 : entB Tryz.prog 181 = true := by kernel_rfl
theorem o181 : bodyOk (anL []) Tryz.f181 = true := by kernel_rfl
theorem w181 {ct : Ct} (ow : Nat → Bool) (ad : List Adj) {code : Code} (hb : Tryz.f181.body = some code) (hc : CtOk pg ct) {args : List V} {r : V} (ha : Nat.ble args.length 15 = true) (hr : r.noId = true) (h : exec ⟨pg, ct, ow, 15, anL []⟩ code ⟨argE args, hOf []⟩ (PostF pg.prog ad [.tmp 6] r [])) : PCall pg 181 args r := pcall_inF ad hc fol 181 n181 hb rfl e181 rfl (bodyOk_at o181 hb rfl) ha hr h
theorem n182 : Tryz.prog.funcs[182]? = some Tryz.f182 := by kernel_rfl
theorem e182 : entB Tryz.prog 182 = true := by kernel_rfl
theorem o182 : bodyOk (anL []) Tryz.f182 = true := by kernel_rfl
theorem w182 {ct : Ct} (ow : Nat → Bool) (ad : List Adj) {code : Code} (hb : Tryz.f182.body = some code) (hc : CtOk pg ct) {args : List V} {r : V} (ha : Nat.ble args.length 55 = true) (hr : r.noId = true) (h : exec ⟨pg, ct, ow, 55, anL []⟩ code ⟨argE args, hOf []⟩ (PostF pg.prog ad [.tmp 4, .tmp 5, .tmp 6] r [])) : PCall pg 182 args r := pcall_inF ad hc fol 182 n182 hb rfl e182 rfl (bodyOk_at o182 hb rfl) ha hr h
theorem n183 : Tryz.prog.funcs[183]? = some Tryz.f183 := by kernel_rfl
theorem e183 : entB Tryz.prog 183 = true := by kernel_rfl
theorem o183 : bodyOk (anL []) Tryz.f183 = true := by kernel_rfl
theorem w183 {ct : Ct} (ow : Nat → Bool) (ad : List Adj) {code : Code} (hb : Tryz.f183.body = some code) (hc : CtOk pg ct) {args : List V} {r : V} (ha : Nat.ble args.length 11 = true) (hr : r.noId = true) (h : exec ⟨pg, ct, ow, 11, anL []⟩ code ⟨argE args, hOf []⟩ (PostF pg.prog ad [.tmp 4, .tmp 5] r [])) : PCall pg 183 args r := pcall_inF ad hc fol 183 n183 hb rfl e183 rfl (bodyOk_at o183 hb rfl) ha hr h
theorem n184 : Tryz.prog.funcs[184]? = some Tryz.f184 := by kernel_rfl
theorem e184 : entB Tryz.prog 184 = true := by kernel_rfl
theorem o184 : bodyOk (anL []) Tryz.f184 = true := by kernel_rfl
theorem w184 {ct : Ct} (ow : Nat → Bool) (ad : List Adj) {code : Code} (hb : Tryz.f184.body = some code) (hc : CtOk pg ct) {args : List V} {r : V} (ha : Nat.ble args.length 8 = true) (hr : r.noId = true) (h : exec ⟨pg, ct, ow, 8, anL []⟩ code ⟨argE args, hOf []⟩ (PostF pg.prog ad [.tmp 4] r [])) : PCall pg 184 args r := pcall_inF ad hc fol 184 n184 hb rfl e184 rfl (bodyOk_at o184 hb rfl) ha hr h
theorem n185 : Tryz.prog.funcs[185]? = some Tryz.f185 := by kernel_rfl
theorem e185 : entB Tryz.prog 185 = true := by kernel_rfl
theorem o185 : bodyOk (anL [(3, [0, 0, 2, 7, 15, 31]), (5, [0, 1, 0, 4, 0, 16, 0, 64, 0, 256, 1023, 2047, 0]), (15, [0, 1, 3, 0, 15, 0, 32, 96, 255, 511, 1023, 0, 2048, 6144, 14336, 32767, 0, 65536, 196608, 458752, 1048575, 0, 2097152, 6291456, 16777215, 33554431])]) Tryz.f185 = true := by kernel_rfl
theorem w185 {ct : Ct} (ow : Nat → Bool) (ad : List Adj) {code : Code} (hb : Tryz.f185.body = some code) (hc : CtOk pg ct) {args : List V} {r : V} (ha : Nat.ble args.length 91 = true) (hr : r.noId = true) (h : exec ⟨pg, ct, ow, 91, anL [(3, [0, 0, 2, 7, 15, 31]), (5, [0, 1, 0, 4, 0, 16, 0, 64, 0, 256, 1023, 2047, 0]), (15, [0, 1, 3, 0, 15, 0, 32, 96, 255, 511, 1023, 0, 2048, 6144, 14336, 32767, 0, 65536, 196608, 458752, 1048575, 0, 2097152, 6291456, 16777215, 33554431])]⟩ code ⟨argE args, hOf []⟩ (PostF pg.prog ad [.tmp 2, .tmp 3] r [])) : PCall pg 185 args r := pcall_inF ad hc fol 185 n185 hb rfl e185 rfl (bodyOk_at o185 hb rfl) ha hr h
theorem n186 : Tryz.prog.funcs[186]? = some Tryz.f186 := by kernel_rfl
theorem e186 : entB Tryz.prog 186 = true := by kernel_rfl
theorem o186 : bodyOk (anL []) Tryz.f186 = true := by kernel_rfl
theorem w186 {ct : Ct} (ow : Nat → Bool) (ad : List Adj) {code : Code} (hb : Tryz.f186.body = some code) (hc : CtOk pg ct) {args : List V} {r : V} (ha : Nat.ble args.length 27 = true) (hr : r.noId = true) (h : exec ⟨pg, ct, ow, 27, anL []⟩ code ⟨argE args, hOf []⟩ (PostF pg.prog ad [.cell 2 103, .tmp 3] r [])) : PCall pg 186 args r := pcall_inF ad hc fol 186 n186 hb rfl e186 rfl (bodyOk_at o186 hb rfl) ha hr h
theorem n191 : Tryz.prog.funcs[191]? = some Tryz.f191 := by kernel_rfl
theorem e191 : entB Tryz.prog 191 = true := by kernel_rfl
theorem o191 : bodyOk (anL []) Tryz.f191 = true := by kernel_rfl
theorem w191 {ct : Ct} (ow : Nat → Bool) (ad : List Adj) {code : Code} (hb : Tryz.f191.body = some code) (hc : CtOk pg ct) {args : List V} {r : V} (ha : Nat.ble args.length 33 = true) (hr : r.noId = true) (h : exec ⟨pg, ct, ow, 33, anL []⟩ code ⟨argE args, hOf []⟩ (PostF pg.prog ad [.tmp 4] r [])) : PCall pg 191 args r := pcall_inF ad hc fol 191 n191 hb rfl e191 rfl (bodyOk_at o191 hb rfl) ha hr h
theorem n193 : Tryz.prog.funcs[193]? = some Tryz.f193 := by kernel_rfl
theorem e193 : entB Tryz.prog 193 = true := by kernel_rfl
theorem o193 : bodyOk (anL []) Tryz.f193 = true := by kernel_rfl
theorem w193 {ct : Ct} (ow : Nat → Bool) (ad : List Adj) {code : Code} (hb : Tryz.f193.body = some code) (hc : CtOk pg ct) {args : List V} {r : V} (ha : Nat.ble args.length 16 = true) (hr : r.noId = true) (h : exec ⟨pg, ct, ow, 16, anL []⟩ code ⟨argE args, hOf []⟩ (PostF pg.prog ad [.tmp 2] r [])) : PCall pg 193 args r := pcall_inF ad hc fol 193 n193 hb rfl e193 rfl (bodyOk_at o193 hb rfl) ha hr h
theorem n197 : Tryz.prog.funcs[197]? = some Tryz.f197 := by kernel_rfl
theorem e197 : entB Tryz.prog 197 = true := by kernel_rfl
theorem o197 : bodyOk (anL []) Tryz.f197 = true := by kernel_rfl
theorem w197 {ct : Ct} (ow : Nat → Bool) (ad : List Adj) {code : Code} (hb : Tryz.f197.body = some code) (hc : CtOk pg ct) {args : List V} {r : V} (ha : Nat.ble args.length 8 = true) (hr : r.noId = true) (h : exec ⟨pg, ct, ow, 8, anL []⟩ code ⟨argE args, hOf []⟩ (PostF pg.prog ad [.tmp 4] r [])) : PCall pg 197 args r := pcall_inF ad hc fol 197 n197 hb rfl e197 rfl (bodyOk_at o197 hb rfl) ha hr h
theorem n208 : Tryz.prog.funcs[208]? = some Tryz.f208 := by kernel_rfl
theorem e208 : entB Tryz.prog 208 = true := by kernel_rfl
theorem o208 : bodyOk (anL []) Tryz.f208 = true := by kernel_rfl
theorem w208 {ct : Ct} (ow : Nat → Bool) (ad : List Adj) {code : Code} (hb : Tryz.f208.body = some code) (hc : CtOk pg ct) {args : List V} {r : V} (ha : Nat.ble args.length 15 = true) (hr : r.noId = true) (h : exec ⟨pg, ct, ow, 15, anL []⟩ code ⟨argE args, hOf []⟩ (PostF pg.prog ad [.tmp 4, .tmp 5] r [])) : PCall pg 208 args r := pcall_inF ad hc fol 208 n208 hb rfl e208 rfl (bodyOk_at o208 hb rfl) ha hr h
theorem n209 : Tryz.prog.funcs[209]? = some Tryz.f209 := by kernel_rfl
theorem e209 : entB Tryz.prog 209 = true := by kernel_rfl
theorem o209 : bodyOk (anL []) Tryz.f209 = true := by kernel_rfl
theorem w209 {ct : Ct} (ow : Nat → Bool) (ad : List Adj) {code : Code} (hb : Tryz.f209.body = some code) (hc : CtOk pg ct) {args : List V} {r : V} (ha : Nat.ble args.length 18 = true) (hr : r.noId = true) (h : exec ⟨pg, ct, ow, 18, anL []⟩ code ⟨argE args, hOf []⟩ (PostF pg.prog ad [.tmp 4] r [])) : PCall pg 209 args r := pcall_inF ad hc fol 209 n209 hb rfl e209 rfl (bodyOk_at o209 hb rfl) ha hr h
theorem n212 : Tryz.prog.funcs[212]? = some Tryz.f212 := by kernel_rfl
theorem e212 : entB Tryz.prog 212 = true := by kernel_rfl
theorem o212 : bodyOk (anL []) Tryz.f212 = true := by kernel_rfl
theorem w212 {ct : Ct} (ow : Nat → Bool) (ad : List Adj) {code : Code} (hb : Tryz.f212.body = some code) (hc : CtOk pg ct) {args : List V} {r : V} (ha : Nat.ble args.length 26 = true) (hr : r.noId = true) (h : exec ⟨pg, ct, ow, 26, anL []⟩ code ⟨argE args, hOf []⟩ (PostF pg.prog ad [.tmp 4] r [])) : PCall pg 212 args r := pcall_inF ad hc fol 212 n212 hb rfl e212 rfl (bodyOk_at o212 hb rfl) ha hr h
end Go.Abs
