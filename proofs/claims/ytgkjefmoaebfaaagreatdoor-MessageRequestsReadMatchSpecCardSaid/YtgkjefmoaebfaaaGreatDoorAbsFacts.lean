import Derived.Test.YtgkjefmoaebfaaaGreatDoorAbsK2
import Derived.Test.YtgkjefmoaebfaaaGreatDoorRows
import Derived.Lib.TrailingZeros
import Derived.Lib.ItoaNum
/- facts of this seat's program: its types and functions, by their numbers -/
namespace Go.Abs
open Go Go.Proofs
set_option maxRecDepth 100000
def tabs (w : World) : Prop := Lib.TabIs Tryz.prog w "internal/strconv.uint64pow10" .u64 Lib.pow10Tab ∧ Lib.TabIs Tryz.prog w "math/bits.deBruijn64tab" .u8 (Lib.deBruijn64tab.map fun (n : Nat) => (n : Int))
noncomputable def pg : PG := mkPG Tryz.prog 8 fun w => tabs w ∧ w.ShapedOpen Tryz.prog
theorem tabPow {w : World} (h : pg.ok w) : Lib.TabIs Tryz.prog w "internal/strconv.uint64pow10" .u64 Lib.pow10Tab := by
  obtain ⟨w0, ⟨h1, _⟩, h2⟩ := h
  exact tabIs_same (g := 1) (by kernel_rfl) (by decide) h2 h1.1
theorem tabDb64 {w : World} (h : pg.ok w) : Lib.TabIs Tryz.prog w "math/bits.deBruijn64tab" .u8 (Lib.deBruijn64tab.map fun (n : Nat) => (n : Int)) := by
  obtain ⟨w0, ⟨h1, _⟩, h2⟩ := h
  exact tabIs_same (g := 7) (by kernel_rfl) (by decide) h2 h1.2
theorem tabs_of {w : World} (l : List (String × DataW Unit)) (m0 : ("internal/strconv.uint64pow10", Lib.tabData .u64 Lib.pow10Tab) ∈ l) (m1 : ("math/bits.deBruijn64tab", Lib.tabData .u8 (Lib.deBruijn64tab.map fun (n : Nat) => (n : Int))) ∈ l) (h : laidMet Tryz.prog l w) : tabs w := ⟨laidMet_cells (g := 1) (t := 174) (e := 149) (n := 20) (by kernel_rfl) (by kernel_rfl) (by kernel_rfl) (by kernel_rfl) (by kernel_rfl) (by kernel_rfl) l m0 h, laidMet_cells (g := 7) (t := 198) (e := 5) (n := 64) (by kernel_rfl) (by kernel_rfl) (by kernel_rfl) (by kernel_rfl) (by kernel_rfl) (by kernel_rfl) l m1 h⟩

@[push_cast] theorem pg_prog : pg.prog = Tryz.prog := rfl
theorem fol : Tryz.prog.follows .mixedOrders = true := by kernel_rfl
@[push_cast] theorem t1 : ti Tryz.prog 1 = ⟨.func, 1, 8, some (.con .nilFunc)⟩ := by kernel_rfl
@[push_cast] theorem t2 : ti Tryz.prog 2 = ⟨(.int .i64), 1, 8, some (.int .i64 0)⟩ := by kernel_rfl
@[push_cast] theorem t3 : ti Tryz.prog 3 = ⟨(.int .i64), 1, 8, some (.int .i64 0)⟩ := by kernel_rfl
@[push_cast] theorem t4 : ti Tryz.prog 4 = ⟨.bool, 1, 1, some (.bool false)⟩ := by kernel_rfl
@[push_cast] theorem t5 : ti Tryz.prog 5 = ⟨(.int .u8), 1, 1, some (.int .u8 0)⟩ := by kernel_rfl
@[push_cast] theorem t6 : ti Tryz.prog 6 = ⟨(.int .u8), 1, 1, some (.int .u8 0)⟩ := by kernel_rfl
@[push_cast] theorem eq7 : EqOk Tryz.prog 7 = True := eq_true (eqOk_of (by kernel_rfl))
@[push_cast] theorem t7 : ti Tryz.prog 7 = ⟨(.struct [(0, 2), (1, 3), (2, 4), (3, 6)]), 4, 24, some (.agg [(.int .i64 0), (.int .i64 0), (.bool false), (.int .u8 0)])⟩ := by kernel_rfl
@[push_cast] theorem eq8 : EqOk Tryz.prog 8 = True := eq_true (eqOk_of (by kernel_rfl))
@[push_cast] theorem t8 : ti Tryz.prog 8 = ⟨(.struct [(0, 2), (1, 3), (2, 4), (3, 6)]), 4, 24, some (.agg [(.int .i64 0), (.int .i64 0), (.bool false), (.int .u8 0)])⟩ := by kernel_rfl
@[push_cast] theorem t9 : ti Tryz.prog 9 = ⟨.str, 1, 16, some (.str [])⟩ := by kernel_rfl
@[push_cast] theorem t10 : ti Tryz.prog 10 = ⟨.str, 1, 16, some (.str [])⟩ := by kernel_rfl
@[push_cast] theorem t11 : ti Tryz.prog 11 = ⟨.str, 1, 16, some (.str [])⟩ := by kernel_rfl
@[push_cast] theorem t12 : ti Tryz.prog 12 = ⟨(.int .u64), 1, 8, some (.int .u64 0)⟩ := by kernel_rfl
@[push_cast] theorem t13 : ti Tryz.prog 13 = ⟨(.struct [(0, 9), (1, 12)]), 2, 24, some (.agg [(.str []), (.int .u64 0)])⟩ := by kernel_rfl
@[push_cast] theorem t14 : ti Tryz.prog 14 = ⟨(.struct [(0, 9), (1, 12)]), 2, 24, some (.agg [(.str []), (.int .u64 0)])⟩ := by kernel_rfl
@[push_cast] theorem t15 : ti Tryz.prog 15 = ⟨(.ptr 201), 1, 8, some (.con (.pointer none))⟩ := by kernel_rfl
@[push_cast] theorem t16 : ti Tryz.prog 16 = ⟨(.ptr 204), 1, 8, some (.con (.pointer none))⟩ := by kernel_rfl
@[push_cast] theorem t17 : ti Tryz.prog 17 = ⟨(.ptr 211), 1, 8, some (.con (.pointer none))⟩ := by kernel_rfl
@[push_cast] theorem t18 : ti Tryz.prog 18 = ⟨(.struct [(0, 17)]), 1, 8, some (.agg [(.con (.pointer none))])⟩ := by kernel_rfl
@[push_cast] theorem t19 : ti Tryz.prog 19 = ⟨(.struct [(0, 17)]), 1, 8, some (.agg [(.con (.pointer none))])⟩ := by kernel_rfl
@[push_cast] theorem t20 : ti Tryz.prog 20 = ⟨.iface, 1, 16, some (.con .nilIface)⟩ := by kernel_rfl
@[push_cast] theorem t21 : ti Tryz.prog 21 = ⟨(.int .i32), 1, 4, some (.int .i32 0)⟩ := by kernel_rfl
@[push_cast] theorem t22 : ti Tryz.prog 22 = ⟨(.slice 5), 1, 24, some .nilsl⟩ := by kernel_rfl
@[push_cast] theorem t23 : ti Tryz.prog 23 = ⟨(.slice 61), 1, 24, some .nilsl⟩ := by kernel_rfl
@[push_cast] theorem t24 : ti Tryz.prog 24 = ⟨(.struct [(0, 9), (1, 9), (2, 23), (3, 22)]), 4, 80, some (.agg [(.str []), (.str []), .nilsl, .nilsl])⟩ := by kernel_rfl
@[push_cast] theorem t25 : ti Tryz.prog 25 = ⟨(.struct [(0, 9), (1, 9), (2, 23), (3, 22)]), 4, 80, some (.agg [(.str []), (.str []), .nilsl, .nilsl])⟩ := by kernel_rfl
@[push_cast] theorem t26 : ti Tryz.prog 26 = ⟨(.int .i64), 1, 8, some (.int .i64 0)⟩ := by kernel_rfl
@[push_cast] theorem t28 : ti Tryz.prog 28 = ⟨.func, 1, 8, some (.con .nilFunc)⟩ := by kernel_rfl
@[push_cast] theorem t29 : ti Tryz.prog 29 = ⟨.func, 1, 8, some (.con .nilFunc)⟩ := by kernel_rfl
@[push_cast] theorem t30 : ti Tryz.prog 30 = ⟨.func, 1, 8, some (.con .nilFunc)⟩ := by kernel_rfl
@[push_cast] theorem t31 : ti Tryz.prog 31 = ⟨.func, 1, 8, some (.con .nilFunc)⟩ := by kernel_rfl
@[push_cast] theorem t32 : ti Tryz.prog 32 = ⟨(.struct [(0, 3), (1, 9), (2, 23), (3, 22)]), 4, 72, some (.agg [(.int .i64 0), (.str []), .nilsl, .nilsl])⟩ := by kernel_rfl
@[push_cast] theorem t33 : ti Tryz.prog 33 = ⟨(.struct [(0, 3), (1, 9), (2, 23), (3, 22)]), 4, 72, some (.agg [(.int .i64 0), (.str []), .nilsl, .nilsl])⟩ := by kernel_rfl
@[push_cast] theorem t35 : ti Tryz.prog 35 = ⟨.func, 1, 8, some (.con .nilFunc)⟩ := by kernel_rfl
@[push_cast] theorem t37 : ti Tryz.prog 37 = ⟨.func, 1, 8, some (.con .nilFunc)⟩ := by kernel_rfl
@[push_cast] theorem t38 : ti Tryz.prog 38 = ⟨.func, 1, 8, some (.con .nilFunc)⟩ := by kernel_rfl
@[push_cast] theorem t39 : ti Tryz.prog 39 = ⟨.func, 1, 8, some (.con .nilFunc)⟩ := by kernel_rfl
@[push_cast] theorem t40 : ti Tryz.prog 40 = ⟨.func, 1, 8, some (.con .nilFunc)⟩ := by kernel_rfl
@[push_cast] theorem t41 : ti Tryz.prog 41 = ⟨(.slice 79), 1, 24, some .nilsl⟩ := by kernel_rfl
@[push_cast] theorem eq42 : EqOk Tryz.prog 42 = True := eq_true (eqOk_of (by kernel_rfl))
@[push_cast] theorem t42 : ti Tryz.prog 42 = ⟨(.struct [(0, 9), (1, 9), (2, 9), (3, 9), (4, 9), (5, 4), (6, 9), (7, 4)]), 8, 112, some (.agg [(.str []), (.str []), (.str []), (.str []), (.str []), (.bool false), (.str []), (.bool false)])⟩ := by kernel_rfl
@[push_cast] theorem eq43 : EqOk Tryz.prog 43 = True := eq_true (eqOk_of (by kernel_rfl))
@[push_cast] theorem t43 : ti Tryz.prog 43 = ⟨(.struct [(0, 9), (1, 9), (2, 9), (3, 9), (4, 9), (5, 4), (6, 9), (7, 4)]), 8, 112, some (.agg [(.str []), (.str []), (.str []), (.str []), (.str []), (.bool false), (.str []), (.bool false)])⟩ := by kernel_rfl
@[push_cast] theorem t45 : ti Tryz.prog 45 = ⟨.func, 1, 8, some (.con .nilFunc)⟩ := by kernel_rfl
@[push_cast] theorem t46 : ti Tryz.prog 46 = ⟨.func, 1, 8, some (.con .nilFunc)⟩ := by kernel_rfl
@[push_cast] theorem t48 : ti Tryz.prog 48 = ⟨.func, 1, 8, some (.con .nilFunc)⟩ := by kernel_rfl
@[push_cast] theorem t49 : ti Tryz.prog 49 = ⟨(.slice 9), 1, 24, some .nilsl⟩ := by kernel_rfl
@[push_cast] theorem t50 : ti Tryz.prog 50 = ⟨.func, 1, 8, some (.con .nilFunc)⟩ := by kernel_rfl
@[push_cast] theorem t52 : ti Tryz.prog 52 = ⟨.func, 1, 8, some (.con .nilFunc)⟩ := by kernel_rfl
@[push_cast] theorem t53 : ti Tryz.prog 53 = ⟨.func, 1, 8, some (.con .nilFunc)⟩ := by kernel_rfl
@[push_cast] theorem t55 : ti Tryz.prog 55 = ⟨.func, 1, 8, some (.con .nilFunc)⟩ := by kernel_rfl
@[push_cast] theorem t56 : ti Tryz.prog 56 = ⟨.func, 1, 8, some (.con .nilFunc)⟩ := by kernel_rfl
@[push_cast] theorem t58 : ti Tryz.prog 58 = ⟨.func, 1, 8, some (.con .nilFunc)⟩ := by kernel_rfl
@[push_cast] theorem t59 : ti Tryz.prog 59 = ⟨.func, 1, 8, some (.con .nilFunc)⟩ := by kernel_rfl
@[push_cast] theorem eq60 : EqOk Tryz.prog 60 = True := eq_true (eqOk_of (by kernel_rfl))
@[push_cast] theorem t60 : ti Tryz.prog 60 = ⟨(.struct [(0, 9), (1, 9)]), 2, 32, some (.agg [(.str []), (.str [])])⟩ := by kernel_rfl
@[push_cast] theorem eq61 : EqOk Tryz.prog 61 = True := eq_true (eqOk_of (by kernel_rfl))
@[push_cast] theorem t61 : ti Tryz.prog 61 = ⟨(.struct [(0, 9), (1, 9)]), 2, 32, some (.agg [(.str []), (.str [])])⟩ := by kernel_rfl
@[push_cast] theorem t62 : ti Tryz.prog 62 = ⟨.func, 1, 8, some (.con .nilFunc)⟩ := by kernel_rfl
@[push_cast] theorem t63 : ti Tryz.prog 63 = ⟨.func, 1, 8, some (.con .nilFunc)⟩ := by kernel_rfl
@[push_cast] theorem t64 : ti Tryz.prog 64 = ⟨.func, 1, 8, some (.con .nilFunc)⟩ := by kernel_rfl
@[push_cast] theorem t65 : ti Tryz.prog 65 = ⟨.func, 1, 8, some (.con .nilFunc)⟩ := by kernel_rfl
@[push_cast] theorem t66 : ti Tryz.prog 66 = ⟨.func, 1, 8, some (.con .nilFunc)⟩ := by kernel_rfl
@[push_cast] theorem t68 : ti Tryz.prog 68 = ⟨.func, 1, 8, some (.con .nilFunc)⟩ := by kernel_rfl
@[push_cast] theorem t70 : ti Tryz.prog 70 = ⟨.func, 1, 8, some (.con .nilFunc)⟩ := by kernel_rfl
@[push_cast] theorem t71 : ti Tryz.prog 71 = ⟨.func, 1, 8, some (.con .nilFunc)⟩ := by kernel_rfl
@[push_cast] theorem t72 : ti Tryz.prog 72 = ⟨.func, 1, 8, some (.con .nilFunc)⟩ := by kernel_rfl
@[push_cast] theorem t74 : ti Tryz.prog 74 = ⟨.func, 1, 8, some (.con .nilFunc)⟩ := by kernel_rfl
@[push_cast] theorem t75 : ti Tryz.prog 75 = ⟨.func, 1, 8, some (.con .nilFunc)⟩ := by kernel_rfl
@[push_cast] theorem t76 : ti Tryz.prog 76 = ⟨.func, 1, 8, some (.con .nilFunc)⟩ := by kernel_rfl
@[push_cast] theorem t77 : ti Tryz.prog 77 = ⟨.func, 1, 8, some (.con .nilFunc)⟩ := by kernel_rfl
@[push_cast] theorem eq78 : EqOk Tryz.prog 78 = True := eq_true (eqOk_of (by kernel_rfl))
@[push_cast] theorem t78 : ti Tryz.prog 78 = ⟨(.struct [(0, 9), (1, 9), (2, 9), (3, 4), (4, 9), (5, 4), (6, 3), (7, 3)]), 8, 96, some (.agg [(.str []), (.str []), (.str []), (.bool false), (.str []), (.bool false), (.int .i64 0), (.int .i64 0)])⟩ := by kernel_rfl
@[push_cast] theorem eq79 : EqOk Tryz.prog 79 = True := eq_true (eqOk_of (by kernel_rfl))
@[push_cast] theorem t79 : ti Tryz.prog 79 = ⟨(.struct [(0, 9), (1, 9), (2, 9), (3, 4), (4, 9), (5, 4), (6, 3), (7, 3)]), 8, 96, some (.agg [(.str []), (.str []), (.str []), (.bool false), (.str []), (.bool false), (.int .i64 0), (.int .i64 0)])⟩ := by kernel_rfl
@[push_cast] theorem t80 : ti Tryz.prog 80 = ⟨.func, 1, 8, some (.con .nilFunc)⟩ := by kernel_rfl
@[push_cast] theorem t81 : ti Tryz.prog 81 = ⟨.func, 1, 8, some (.con .nilFunc)⟩ := by kernel_rfl
@[push_cast] theorem t82 : ti Tryz.prog 82 = ⟨.func, 1, 8, some (.con .nilFunc)⟩ := by kernel_rfl
@[push_cast] theorem t83 : ti Tryz.prog 83 = ⟨.func, 1, 8, some (.con .nilFunc)⟩ := by kernel_rfl
@[push_cast] theorem t84 : ti Tryz.prog 84 = ⟨.func, 1, 8, some (.con .nilFunc)⟩ := by kernel_rfl
@[push_cast] theorem t85 : ti Tryz.prog 85 = ⟨.func, 1, 8, some (.con .nilFunc)⟩ := by kernel_rfl
@[push_cast] theorem t86 : ti Tryz.prog 86 = ⟨.func, 1, 8, some (.con .nilFunc)⟩ := by kernel_rfl
@[push_cast] theorem t87 : ti Tryz.prog 87 = ⟨.func, 1, 8, some (.con .nilFunc)⟩ := by kernel_rfl
@[push_cast] theorem t89 : ti Tryz.prog 89 = ⟨.func, 1, 8, some (.con .nilFunc)⟩ := by kernel_rfl
@[push_cast] theorem t90 : ti Tryz.prog 90 = ⟨.func, 1, 8, some (.con .nilFunc)⟩ := by kernel_rfl
@[push_cast] theorem t91 : ti Tryz.prog 91 = ⟨.func, 1, 8, some (.con .nilFunc)⟩ := by kernel_rfl
@[push_cast] theorem t92 : ti Tryz.prog 92 = ⟨.func, 1, 8, some (.con .nilFunc)⟩ := by kernel_rfl
@[push_cast] theorem t93 : ti Tryz.prog 93 = ⟨.func, 1, 8, some (.con .nilFunc)⟩ := by kernel_rfl
@[push_cast] theorem t95 : ti Tryz.prog 95 = ⟨.func, 1, 8, some (.con .nilFunc)⟩ := by kernel_rfl
@[push_cast] theorem t96 : ti Tryz.prog 96 = ⟨.func, 1, 8, some (.con .nilFunc)⟩ := by kernel_rfl
@[push_cast] theorem t98 : ti Tryz.prog 98 = ⟨.func, 1, 8, some (.con .nilFunc)⟩ := by kernel_rfl
@[push_cast] theorem t99 : ti Tryz.prog 99 = ⟨.func, 1, 8, some (.con .nilFunc)⟩ := by kernel_rfl
@[push_cast] theorem t100 : ti Tryz.prog 100 = ⟨.iface, 1, 16, some (.con .nilIface)⟩ := by kernel_rfl
@[push_cast] theorem t101 : ti Tryz.prog 101 = ⟨.iface, 1, 16, some (.con .nilIface)⟩ := by kernel_rfl
@[push_cast] theorem t103 : ti Tryz.prog 103 = ⟨.func, 1, 8, some (.con .nilFunc)⟩ := by kernel_rfl
@[push_cast] theorem t105 : ti Tryz.prog 105 = ⟨.func, 1, 8, some (.con .nilFunc)⟩ := by kernel_rfl
@[push_cast] theorem t106 : ti Tryz.prog 106 = ⟨.func, 1, 8, some (.con .nilFunc)⟩ := by kernel_rfl
@[push_cast] theorem t107 : ti Tryz.prog 107 = ⟨.func, 1, 8, some (.con .nilFunc)⟩ := by kernel_rfl
@[push_cast] theorem t108 : ti Tryz.prog 108 = ⟨.func, 1, 8, some (.con .nilFunc)⟩ := by kernel_rfl
@[push_cast] theorem t109 : ti Tryz.prog 109 = ⟨.func, 1, 8, some (.con .nilFunc)⟩ := by kernel_rfl
@[push_cast] theorem t110 : ti Tryz.prog 110 = ⟨.func, 1, 8, some (.con .nilFunc)⟩ := by kernel_rfl
@[push_cast] theorem t111 : ti Tryz.prog 111 = ⟨.func, 1, 8, some (.con .nilFunc)⟩ := by kernel_rfl
@[push_cast] theorem t112 : ti Tryz.prog 112 = ⟨.func, 1, 8, some (.con .nilFunc)⟩ := by kernel_rfl
@[push_cast] theorem t113 : ti Tryz.prog 113 = ⟨.func, 1, 8, some (.con .nilFunc)⟩ := by kernel_rfl
@[push_cast] theorem t114 : ti Tryz.prog 114 = ⟨.func, 1, 8, some (.con .nilFunc)⟩ := by kernel_rfl
@[push_cast] theorem t115 : ti Tryz.prog 115 = ⟨.func, 1, 8, some (.con .nilFunc)⟩ := by kernel_rfl
@[push_cast] theorem t116 : ti Tryz.prog 116 = ⟨(.slice 3), 1, 24, some .nilsl⟩ := by kernel_rfl
@[push_cast] theorem t117 : ti Tryz.prog 117 = ⟨(.ptr 119), 1, 8, some (.con (.pointer none))⟩ := by kernel_rfl
@[push_cast] theorem t118 : ti Tryz.prog 118 = ⟨(.struct [(0, 117), (1, 22)]), 2, 32, some (.agg [(.con (.pointer none)), .nilsl])⟩ := by kernel_rfl
@[push_cast] theorem t119 : ti Tryz.prog 119 = ⟨(.struct [(0, 117), (1, 22)]), 2, 32, some (.agg [(.con (.pointer none)), .nilsl])⟩ := by kernel_rfl
@[push_cast] theorem t120 : ti Tryz.prog 120 = ⟨.func, 1, 8, some (.con .nilFunc)⟩ := by kernel_rfl
@[push_cast] theorem t121 : ti Tryz.prog 121 = ⟨.func, 1, 8, some (.con .nilFunc)⟩ := by kernel_rfl
@[push_cast] theorem t122 : ti Tryz.prog 122 = ⟨.func, 1, 8, some (.con .nilFunc)⟩ := by kernel_rfl
@[push_cast] theorem t123 : ti Tryz.prog 123 = ⟨.func, 1, 8, some (.con .nilFunc)⟩ := by kernel_rfl
@[push_cast] theorem t124 : ti Tryz.prog 124 = ⟨.func, 1, 8, some (.con .nilFunc)⟩ := by kernel_rfl
@[push_cast] theorem t125 : ti Tryz.prog 125 = ⟨.func, 1, 8, some (.con .nilFunc)⟩ := by kernel_rfl
@[push_cast] theorem t126 : ti Tryz.prog 126 = ⟨(.int .u64), 1, 8, some (.int .u64 0)⟩ := by kernel_rfl
@[push_cast] theorem eq127 : EqOk Tryz.prog 127 = True := eq_true (eqOk_of (by kernel_rfl))
@[push_cast] theorem t127 : ti Tryz.prog 127 = ⟨(.struct [(0, 3), (1, 3), (2, 3), (3, 3), (4, 3), (5, 3)]), 6, 48, some (.agg [(.int .i64 0), (.int .i64 0), (.int .i64 0), (.int .i64 0), (.int .i64 0), (.int .i64 0)])⟩ := by kernel_rfl
@[push_cast] theorem eq128 : EqOk Tryz.prog 128 = True := eq_true (eqOk_of (by kernel_rfl))
@[push_cast] theorem t128 : ti Tryz.prog 128 = ⟨(.struct [(0, 3), (1, 3), (2, 3), (3, 3), (4, 3), (5, 3)]), 6, 48, some (.agg [(.int .i64 0), (.int .i64 0), (.int .i64 0), (.int .i64 0), (.int .i64 0), (.int .i64 0)])⟩ := by kernel_rfl
@[push_cast] theorem t129 : ti Tryz.prog 129 = ⟨.func, 1, 8, some (.con .nilFunc)⟩ := by kernel_rfl
@[push_cast] theorem t130 : ti Tryz.prog 130 = ⟨.func, 1, 8, some (.con .nilFunc)⟩ := by kernel_rfl
@[push_cast] theorem t131 : ti Tryz.prog 131 = ⟨.func, 1, 8, some (.con .nilFunc)⟩ := by kernel_rfl
@[push_cast] theorem t132 : ti Tryz.prog 132 = ⟨.func, 1, 8, some (.con .nilFunc)⟩ := by kernel_rfl
@[push_cast] theorem t133 : ti Tryz.prog 133 = ⟨.func, 1, 8, some (.con .nilFunc)⟩ := by kernel_rfl
@[push_cast] theorem t134 : ti Tryz.prog 134 = ⟨.func, 1, 8, some (.con .nilFunc)⟩ := by kernel_rfl
@[push_cast] theorem t135 : ti Tryz.prog 135 = ⟨.func, 1, 8, some (.con .nilFunc)⟩ := by kernel_rfl
@[push_cast] theorem t136 : ti Tryz.prog 136 = ⟨.func, 1, 8, some (.con .nilFunc)⟩ := by kernel_rfl
@[push_cast] theorem t137 : ti Tryz.prog 137 = ⟨.func, 1, 8, some (.con .nilFunc)⟩ := by kernel_rfl
@[push_cast] theorem t138 : ti Tryz.prog 138 = ⟨.func, 1, 8, some (.con .nilFunc)⟩ := by kernel_rfl
@[push_cast] theorem t139 : ti Tryz.prog 139 = ⟨.func, 1, 8, some (.con .nilFunc)⟩ := by kernel_rfl
@[push_cast] theorem t140 : ti Tryz.prog 140 = ⟨(.ptr 5), 1, 8, some (.con (.pointer none))⟩ := by kernel_rfl
@[push_cast] theorem t141 : ti Tryz.prog 141 = ⟨.func, 1, 8, some (.con .nilFunc)⟩ := by kernel_rfl
@[push_cast] theorem t143 : ti Tryz.prog 143 = ⟨.func, 1, 8, some (.con .nilFunc)⟩ := by kernel_rfl
@[push_cast] theorem t144 : ti Tryz.prog 144 = ⟨(.int .u32), 1, 4, some (.int .u32 0)⟩ := by kernel_rfl
@[push_cast] theorem t146 : ti Tryz.prog 146 = ⟨.func, 1, 8, some (.con .nilFunc)⟩ := by kernel_rfl
@[push_cast] theorem t147 : ti Tryz.prog 147 = ⟨.func, 1, 8, some (.con .nilFunc)⟩ := by kernel_rfl
@[push_cast] theorem t148 : ti Tryz.prog 148 = ⟨(.arr 24 5), 24, 24, some (.agg [(.int .u8 0), (.int .u8 0), (.int .u8 0), (.int .u8 0), (.int .u8 0), (.int .u8 0), (.int .u8 0), (.int .u8 0), (.int .u8 0), (.int .u8 0), (.int .u8 0), (.int .u8 0), (.int .u8 0), (.int .u8 0), (.int .u8 0), (.int .u8 0), (.int .u8 0), (.int .u8 0), (.int .u8 0), (.int .u8 0), (.int .u8 0), (.int .u8 0), (.int .u8 0), (.int .u8 0)])⟩ := by kernel_rfl
@[push_cast] theorem t149 : ti Tryz.prog 149 = ⟨(.int .u64), 1, 8, some (.int .u64 0)⟩ := by kernel_rfl
@[push_cast] theorem t150 : ti Tryz.prog 150 = ⟨.func, 1, 8, some (.con .nilFunc)⟩ := by kernel_rfl
@[push_cast] theorem t151 : ti Tryz.prog 151 = ⟨.func, 1, 8, some (.con .nilFunc)⟩ := by kernel_rfl
@[push_cast] theorem t153 : ti Tryz.prog 153 = ⟨.func, 1, 8, some (.con .nilFunc)⟩ := by kernel_rfl
@[push_cast] theorem t154 : ti Tryz.prog 154 = ⟨.func, 1, 8, some (.con .nilFunc)⟩ := by kernel_rfl
@[push_cast] theorem t155 : ti Tryz.prog 155 = ⟨(.arr 256 4), 256, 256, some (.agg [(.bool false), (.bool false), (.bool false), (.bool false), (.bool false), (.bool false), (.bool false), (.bool false), (.bool false), (.bool false), (.bool false), (.bool false), (.bool false), (.bool false), (.bool false), (.bool false), (.bool false), (.bool false), (.bool false), (.bool false), (.bool false), (.bool false), (.bool false), (.bool false), (.bool false), (.bool false), (.bool false), (.bool false), (.bool false), (.bool false), (.bool false), (.bool false), (.bool false), (.bool false), (.bool false), (.bool false), (.bool false), (.bool false), (.bool false), (.bool false), (.bool false), (.bool false), (.bool false), (.bool false), (.bool false), (.bool false), (.bool false), (.bool false), (.bool false), (.bool false), (.bool false), (.bool false), (.bool false), (.bool false), (.bool false), (.bool false), (.bool false), (.bool false), (.bool false), (.bool false), (.bool false), (.bool false), (.bool false), (.bool false), (.bool false), (.bool false), (.bool false), (.bool false), (.bool false), (.bool false), (.bool false), (.bool false), (.bool false), (.bool false), (.bool false), (.bool false), (.bool false), (.bool false), (.bool false), (.bool false), (.bool false), (.bool false), (.bool false), (.bool false), (.bool false), (.bool false), (.bool false), (.bool false), (.bool false), (.bool false), (.bool false), (.bool false), (.bool false), (.bool false), (.bool false), (.bool false), (.bool false), (.bool false), (.bool false), (.bool false), (.bool false), (.bool false), (.bool false), (.bool false), (.bool false), (.bool false), (.bool false), (.bool false), (.bool false), (.bool false), (.bool false), (.bool false), (.bool false), (.bool false), (.bool false), (.bool false), (.bool false), (.bool false), (.bool false), (.bool false), (.bool false), (.bool false), (.bool false), (.bool false), (.bool false), (.bool false), (.bool false), (.bool false), (.bool false), (.bool false), (.bool false), (.bool false), (.bool false), (.bool false), (.bool false), (.bool false), (.bool false), (.bool false), (.bool false), (.bool false), (.bool false), (.bool false), (.bool false), (.bool false), (.bool false), (.bool false), (.bool false), (.bool false), (.bool false), (.bool false), (.bool false), (.bool false), (.bool false), (.bool false), (.bool false), (.bool false), (.bool false), (.bool false), (.bool false), (.bool false), (.bool false), (.bool false), (.bool false), (.bool false), (.bool false), (.bool false), (.bool false), (.bool false), (.bool false), (.bool false), (.bool false), (.bool false), (.bool false), (.bool false), (.bool false), (.bool false), (.bool false), (.bool false), (.bool false), (.bool false), (.bool false), (.bool false), (.bool false), (.bool false), (.bool false), (.bool false), (.bool false), (.bool false), (.bool false), (.bool false), (.bool false), (.bool false), (.bool false), (.bool false), (.bool false), (.bool false), (.bool false), (.bool false), (.bool false), (.bool false), (.bool false), (.bool false), (.bool false), (.bool false), (.bool false), (.bool false), (.bool false), (.bool false), (.bool false), (.bool false), (.bool false), (.bool false), (.bool false), (.bool false), (.bool false), (.bool false), (.bool false), (.bool false), (.bool false), (.bool false), (.bool false), (.bool false), (.bool false), (.bool false), (.bool false), (.bool false), (.bool false), (.bool false), (.bool false), (.bool false), (.bool false), (.bool false), (.bool false), (.bool false), (.bool false), (.bool false), (.bool false), (.bool false), (.bool false), (.bool false), (.bool false), (.bool false), (.bool false), (.bool false), (.bool false), (.bool false), (.bool false), (.bool false), (.bool false), (.bool false), (.bool false), (.bool false), (.bool false), (.bool false), (.bool false), (.bool false)])⟩ := by kernel_rfl
@[push_cast] theorem t156 : ti Tryz.prog 156 = ⟨(.arr 256 4), 256, 256, some (.agg [(.bool false), (.bool false), (.bool false), (.bool false), (.bool false), (.bool false), (.bool false), (.bool false), (.bool false), (.bool false), (.bool false), (.bool false), (.bool false), (.bool false), (.bool false), (.bool false), (.bool false), (.bool false), (.bool false), (.bool false), (.bool false), (.bool false), (.bool false), (.bool false), (.bool false), (.bool false), (.bool false), (.bool false), (.bool false), (.bool false), (.bool false), (.bool false), (.bool false), (.bool false), (.bool false), (.bool false), (.bool false), (.bool false), (.bool false), (.bool false), (.bool false), (.bool false), (.bool false), (.bool false), (.bool false), (.bool false), (.bool false), (.bool false), (.bool false), (.bool false), (.bool false), (.bool false), (.bool false), (.bool false), (.bool false), (.bool false), (.bool false), (.bool false), (.bool false), (.bool false), (.bool false), (.bool false), (.bool false), (.bool false), (.bool false), (.bool false), (.bool false), (.bool false), (.bool false), (.bool false), (.bool false), (.bool false), (.bool false), (.bool false), (.bool false), (.bool false), (.bool false), (.bool false), (.bool false), (.bool false), (.bool false), (.bool false), (.bool false), (.bool false), (.bool false), (.bool false), (.bool false), (.bool false), (.bool false), (.bool false), (.bool false), (.bool false), (.bool false), (.bool false), (.bool false), (.bool false), (.bool false), (.bool false), (.bool false), (.bool false), (.bool false), (.bool false), (.bool false), (.bool false), (.bool false), (.bool false), (.bool false), (.bool false), (.bool false), (.bool false), (.bool false), (.bool false), (.bool false), (.bool false), (.bool false), (.bool false), (.bool false), (.bool false), (.bool false), (.bool false), (.bool false), (.bool false), (.bool false), (.bool false), (.bool false), (.bool false), (.bool false), (.bool false), (.bool false), (.bool false), (.bool false), (.bool false), (.bool false), (.bool false), (.bool false), (.bool false), (.bool false), (.bool false), (.bool false), (.bool false), (.bool false), (.bool false), (.bool false), (.bool false), (.bool false), (.bool false), (.bool false), (.bool false), (.bool false), (.bool false), (.bool false), (.bool false), (.bool false), (.bool false), (.bool false), (.bool false), (.bool false), (.bool false), (.bool false), (.bool false), (.bool false), (.bool false), (.bool false), (.bool false), (.bool false), (.bool false), (.bool false), (.bool false), (.bool false), (.bool false), (.bool false), (.bool false), (.bool false), (.bool false), (.bool false), (.bool false), (.bool false), (.bool false), (.bool false), (.bool false), (.bool false), (.bool false), (.bool false), (.bool false), (.bool false), (.bool false), (.bool false), (.bool false), (.bool false), (.bool false), (.bool false), (.bool false), (.bool false), (.bool false), (.bool false), (.bool false), (.bool false), (.bool false), (.bool false), (.bool false), (.bool false), (.bool false), (.bool false), (.bool false), (.bool false), (.bool false), (.bool false), (.bool false), (.bool false), (.bool false), (.bool false), (.bool false), (.bool false), (.bool false), (.bool false), (.bool false), (.bool false), (.bool false), (.bool false), (.bool false), (.bool false), (.bool false), (.bool false), (.bool false), (.bool false), (.bool false), (.bool false), (.bool false), (.bool false), (.bool false), (.bool false), (.bool false), (.bool false), (.bool false), (.bool false), (.bool false), (.bool false), (.bool false), (.bool false), (.bool false), (.bool false), (.bool false), (.bool false), (.bool false), (.bool false), (.bool false), (.bool false), (.bool false), (.bool false), (.bool false), (.bool false), (.bool false), (.bool false), (.bool false), (.bool false), (.bool false)])⟩ := by kernel_rfl
@[push_cast] theorem t158 : ti Tryz.prog 158 = ⟨.func, 1, 8, some (.con .nilFunc)⟩ := by kernel_rfl
@[push_cast] theorem t159 : ti Tryz.prog 159 = ⟨.func, 1, 8, some (.con .nilFunc)⟩ := by kernel_rfl
@[push_cast] theorem t160 : ti Tryz.prog 160 = ⟨(.ptr 156), 1, 8, some (.con (.pointer none))⟩ := by kernel_rfl
@[push_cast] theorem t161 : ti Tryz.prog 161 = ⟨(.int .i64), 1, 8, some (.int .i64 0)⟩ := by kernel_rfl
@[push_cast] theorem t163 : ti Tryz.prog 163 = ⟨.func, 1, 8, some (.con .nilFunc)⟩ := by kernel_rfl
@[push_cast] theorem t164 : ti Tryz.prog 164 = ⟨(.ptr 181), 1, 8, some (.con (.pointer none))⟩ := by kernel_rfl
@[push_cast] theorem t165 : ti Tryz.prog 165 = ⟨.func, 1, 8, some (.con .nilFunc)⟩ := by kernel_rfl
@[push_cast] theorem t166 : ti Tryz.prog 166 = ⟨.func, 1, 8, some (.con .nilFunc)⟩ := by kernel_rfl
@[push_cast] theorem t167 : ti Tryz.prog 167 = ⟨.other, 1, 8, some (.con (.pointer none))⟩ := by kernel_rfl
@[push_cast] theorem t168 : ti Tryz.prog 168 = ⟨.func, 1, 8, some (.con .nilFunc)⟩ := by kernel_rfl
@[push_cast] theorem t169 : ti Tryz.prog 169 = ⟨.func, 1, 8, some (.con .nilFunc)⟩ := by kernel_rfl
@[push_cast] theorem t171 : ti Tryz.prog 171 = ⟨.func, 1, 8, some (.con .nilFunc)⟩ := by kernel_rfl
@[push_cast] theorem t172 : ti Tryz.prog 172 = ⟨.func, 1, 8, some (.con .nilFunc)⟩ := by kernel_rfl
@[push_cast] theorem t173 : ti Tryz.prog 173 = ⟨.func, 1, 8, some (.con .nilFunc)⟩ := by kernel_rfl
@[push_cast] theorem t174 : ti Tryz.prog 174 = ⟨(.arr 20 149), 20, 160, some (.agg [(.int .u64 0), (.int .u64 0), (.int .u64 0), (.int .u64 0), (.int .u64 0), (.int .u64 0), (.int .u64 0), (.int .u64 0), (.int .u64 0), (.int .u64 0), (.int .u64 0), (.int .u64 0), (.int .u64 0), (.int .u64 0), (.int .u64 0), (.int .u64 0), (.int .u64 0), (.int .u64 0), (.int .u64 0), (.int .u64 0)])⟩ := by kernel_rfl
@[push_cast] theorem t175 : ti Tryz.prog 175 = ⟨(.arr 65 5), 65, 65, some (.agg [(.int .u8 0), (.int .u8 0), (.int .u8 0), (.int .u8 0), (.int .u8 0), (.int .u8 0), (.int .u8 0), (.int .u8 0), (.int .u8 0), (.int .u8 0), (.int .u8 0), (.int .u8 0), (.int .u8 0), (.int .u8 0), (.int .u8 0), (.int .u8 0), (.int .u8 0), (.int .u8 0), (.int .u8 0), (.int .u8 0), (.int .u8 0), (.int .u8 0), (.int .u8 0), (.int .u8 0), (.int .u8 0), (.int .u8 0), (.int .u8 0), (.int .u8 0), (.int .u8 0), (.int .u8 0), (.int .u8 0), (.int .u8 0), (.int .u8 0), (.int .u8 0), (.int .u8 0), (.int .u8 0), (.int .u8 0), (.int .u8 0), (.int .u8 0), (.int .u8 0), (.int .u8 0), (.int .u8 0), (.int .u8 0), (.int .u8 0), (.int .u8 0), (.int .u8 0), (.int .u8 0), (.int .u8 0), (.int .u8 0), (.int .u8 0), (.int .u8 0), (.int .u8 0), (.int .u8 0), (.int .u8 0), (.int .u8 0), (.int .u8 0), (.int .u8 0), (.int .u8 0), (.int .u8 0), (.int .u8 0), (.int .u8 0), (.int .u8 0), (.int .u8 0), (.int .u8 0), (.int .u8 0)])⟩ := by kernel_rfl
@[push_cast] theorem t176 : ti Tryz.prog 176 = ⟨.func, 1, 8, some (.con .nilFunc)⟩ := by kernel_rfl
@[push_cast] theorem t177 : ti Tryz.prog 177 = ⟨.func, 1, 8, some (.con .nilFunc)⟩ := by kernel_rfl
@[push_cast] theorem t179 : ti Tryz.prog 179 = ⟨.func, 1, 8, some (.con .nilFunc)⟩ := by kernel_rfl
@[push_cast] theorem t180 : ti Tryz.prog 180 = ⟨(.struct [(0, 9), (1, 9), (2, 101)]), 3, 48, some (.agg [(.str []), (.str []), (.con .nilIface)])⟩ := by kernel_rfl
@[push_cast] theorem t181 : ti Tryz.prog 181 = ⟨(.struct [(0, 9), (1, 9), (2, 101)]), 3, 48, some (.agg [(.str []), (.str []), (.con .nilIface)])⟩ := by kernel_rfl
@[push_cast] theorem t182 : ti Tryz.prog 182 = ⟨.func, 1, 8, some (.con .nilFunc)⟩ := by kernel_rfl
@[push_cast] theorem t183 : ti Tryz.prog 183 = ⟨(.arr 256 5), 256, 256, some (.agg [(.int .u8 0), (.int .u8 0), (.int .u8 0), (.int .u8 0), (.int .u8 0), (.int .u8 0), (.int .u8 0), (.int .u8 0), (.int .u8 0), (.int .u8 0), (.int .u8 0), (.int .u8 0), (.int .u8 0), (.int .u8 0), (.int .u8 0), (.int .u8 0), (.int .u8 0), (.int .u8 0), (.int .u8 0), (.int .u8 0), (.int .u8 0), (.int .u8 0), (.int .u8 0), (.int .u8 0), (.int .u8 0), (.int .u8 0), (.int .u8 0), (.int .u8 0), (.int .u8 0), (.int .u8 0), (.int .u8 0), (.int .u8 0), (.int .u8 0), (.int .u8 0), (.int .u8 0), (.int .u8 0), (.int .u8 0), (.int .u8 0), (.int .u8 0), (.int .u8 0), (.int .u8 0), (.int .u8 0), (.int .u8 0), (.int .u8 0), (.int .u8 0), (.int .u8 0), (.int .u8 0), (.int .u8 0), (.int .u8 0), (.int .u8 0), (.int .u8 0), (.int .u8 0), (.int .u8 0), (.int .u8 0), (.int .u8 0), (.int .u8 0), (.int .u8 0), (.int .u8 0), (.int .u8 0), (.int .u8 0), (.int .u8 0), (.int .u8 0), (.int .u8 0), (.int .u8 0), (.int .u8 0), (.int .u8 0), (.int .u8 0), (.int .u8 0), (.int .u8 0), (.int .u8 0), (.int .u8 0), (.int .u8 0), (.int .u8 0), (.int .u8 0), (.int .u8 0), (.int .u8 0), (.int .u8 0), (.int .u8 0), (.int .u8 0), (.int .u8 0), (.int .u8 0), (.int .u8 0), (.int .u8 0), (.int .u8 0), (.int .u8 0), (.int .u8 0), (.int .u8 0), (.int .u8 0), (.int .u8 0), (.int .u8 0), (.int .u8 0), (.int .u8 0), (.int .u8 0), (.int .u8 0), (.int .u8 0), (.int .u8 0), (.int .u8 0), (.int .u8 0), (.int .u8 0), (.int .u8 0), (.int .u8 0), (.int .u8 0), (.int .u8 0), (.int .u8 0), (.int .u8 0), (.int .u8 0), (.int .u8 0), (.int .u8 0), (.int .u8 0), (.int .u8 0), (.int .u8 0), (.int .u8 0), (.int .u8 0), (.int .u8 0), (.int .u8 0), (.int .u8 0), (.int .u8 0), (.int .u8 0), (.int .u8 0), (.int .u8 0), (.int .u8 0), (.int .u8 0), (.int .u8 0), (.int .u8 0), (.int .u8 0), (.int .u8 0), (.int .u8 0), (.int .u8 0), (.int .u8 0), (.int .u8 0), (.int .u8 0), (.int .u8 0), (.int .u8 0), (.int .u8 0), (.int .u8 0), (.int .u8 0), (.int .u8 0), (.int .u8 0), (.int .u8 0), (.int .u8 0), (.int .u8 0), (.int .u8 0), (.int .u8 0), (.int .u8 0), (.int .u8 0), (.int .u8 0), (.int .u8 0), (.int .u8 0), (.int .u8 0), (.int .u8 0), (.int .u8 0), (.int .u8 0), (.int .u8 0), (.int .u8 0), (.int .u8 0), (.int .u8 0), (.int .u8 0), (.int .u8 0), (.int .u8 0), (.int .u8 0), (.int .u8 0), (.int .u8 0), (.int .u8 0), (.int .u8 0), (.int .u8 0), (.int .u8 0), (.int .u8 0), (.int .u8 0), (.int .u8 0), (.int .u8 0), (.int .u8 0), (.int .u8 0), (.int .u8 0), (.int .u8 0), (.int .u8 0), (.int .u8 0), (.int .u8 0), (.int .u8 0), (.int .u8 0), (.int .u8 0), (.int .u8 0), (.int .u8 0), (.int .u8 0), (.int .u8 0), (.int .u8 0), (.int .u8 0), (.int .u8 0), (.int .u8 0), (.int .u8 0), (.int .u8 0), (.int .u8 0), (.int .u8 0), (.int .u8 0), (.int .u8 0), (.int .u8 0), (.int .u8 0), (.int .u8 0), (.int .u8 0), (.int .u8 0), (.int .u8 0), (.int .u8 0), (.int .u8 0), (.int .u8 0), (.int .u8 0), (.int .u8 0), (.int .u8 0), (.int .u8 0), (.int .u8 0), (.int .u8 0), (.int .u8 0), (.int .u8 0), (.int .u8 0), (.int .u8 0), (.int .u8 0), (.int .u8 0), (.int .u8 0), (.int .u8 0), (.int .u8 0), (.int .u8 0), (.int .u8 0), (.int .u8 0), (.int .u8 0), (.int .u8 0), (.int .u8 0), (.int .u8 0), (.int .u8 0), (.int .u8 0), (.int .u8 0), (.int .u8 0), (.int .u8 0), (.int .u8 0), (.int .u8 0), (.int .u8 0), (.int .u8 0), (.int .u8 0), (.int .u8 0), (.int .u8 0), (.int .u8 0), (.int .u8 0), (.int .u8 0), (.int .u8 0), (.int .u8 0), (.int .u8 0), (.int .u8 0), (.int .u8 0), (.int .u8 0), (.int .u8 0), (.int .u8 0), (.int .u8 0), (.int .u8 0), (.int .u8 0), (.int .u8 0), (.int .u8 0), (.int .u8 0), (.int .u8 0), (.int .u8 0)])⟩ := by kernel_rfl
@[push_cast] theorem eq184 : EqOk Tryz.prog 184 = True := eq_true (eqOk_of (by kernel_rfl))
@[push_cast] theorem t184 : ti Tryz.prog 184 = ⟨(.struct [(0, 5), (1, 5)]), 2, 2, some (.agg [(.int .u8 0), (.int .u8 0)])⟩ := by kernel_rfl
@[push_cast] theorem eq185 : EqOk Tryz.prog 185 = True := eq_true (eqOk_of (by kernel_rfl))
@[push_cast] theorem t185 : ti Tryz.prog 185 = ⟨(.struct [(0, 5), (1, 5)]), 2, 2, some (.agg [(.int .u8 0), (.int .u8 0)])⟩ := by kernel_rfl
@[push_cast] theorem t186 : ti Tryz.prog 186 = ⟨(.arr 16 185), 32, 32, some (.agg [(.int .u8 0), (.int .u8 0), (.int .u8 0), (.int .u8 0), (.int .u8 0), (.int .u8 0), (.int .u8 0), (.int .u8 0), (.int .u8 0), (.int .u8 0), (.int .u8 0), (.int .u8 0), (.int .u8 0), (.int .u8 0), (.int .u8 0), (.int .u8 0), (.int .u8 0), (.int .u8 0), (.int .u8 0), (.int .u8 0), (.int .u8 0), (.int .u8 0), (.int .u8 0), (.int .u8 0), (.int .u8 0), (.int .u8 0), (.int .u8 0), (.int .u8 0), (.int .u8 0), (.int .u8 0), (.int .u8 0), (.int .u8 0)])⟩ := by kernel_rfl
@[push_cast] theorem t187 : ti Tryz.prog 187 = ⟨.func, 1, 8, some (.con .nilFunc)⟩ := by kernel_rfl
@[push_cast] theorem t188 : ti Tryz.prog 188 = ⟨.func, 1, 8, some (.con .nilFunc)⟩ := by kernel_rfl
@[push_cast] theorem t190 : ti Tryz.prog 190 = ⟨.func, 1, 8, some (.con .nilFunc)⟩ := by kernel_rfl
@[push_cast] theorem t191 : ti Tryz.prog 191 = ⟨.func, 1, 8, some (.con .nilFunc)⟩ := by kernel_rfl
@[push_cast] theorem t192 : ti Tryz.prog 192 = ⟨.func, 1, 8, some (.con .nilFunc)⟩ := by kernel_rfl
@[push_cast] theorem t193 : ti Tryz.prog 193 = ⟨.func, 1, 8, some (.con .nilFunc)⟩ := by kernel_rfl
@[push_cast] theorem t194 : ti Tryz.prog 194 = ⟨(.ptr 196), 1, 8, some (.con (.pointer none))⟩ := by kernel_rfl
@[push_cast] theorem eq195 : EqOk Tryz.prog 195 = True := eq_true (eqOk_of (by kernel_rfl))
@[push_cast] theorem t195 : ti Tryz.prog 195 = ⟨(.struct [(0, 9)]), 1, 16, some (.agg [(.str [])])⟩ := by kernel_rfl
@[push_cast] theorem eq196 : EqOk Tryz.prog 196 = True := eq_true (eqOk_of (by kernel_rfl))
@[push_cast] theorem t196 : ti Tryz.prog 196 = ⟨(.struct [(0, 9)]), 1, 16, some (.agg [(.str [])])⟩ := by kernel_rfl
@[push_cast] theorem t197 : ti Tryz.prog 197 = ⟨(.arr 32 5), 32, 32, some (.agg [(.int .u8 0), (.int .u8 0), (.int .u8 0), (.int .u8 0), (.int .u8 0), (.int .u8 0), (.int .u8 0), (.int .u8 0), (.int .u8 0), (.int .u8 0), (.int .u8 0), (.int .u8 0), (.int .u8 0), (.int .u8 0), (.int .u8 0), (.int .u8 0), (.int .u8 0), (.int .u8 0), (.int .u8 0), (.int .u8 0), (.int .u8 0), (.int .u8 0), (.int .u8 0), (.int .u8 0), (.int .u8 0), (.int .u8 0), (.int .u8 0), (.int .u8 0), (.int .u8 0), (.int .u8 0), (.int .u8 0), (.int .u8 0)])⟩ := by kernel_rfl
@[push_cast] theorem t198 : ti Tryz.prog 198 = ⟨(.arr 64 5), 64, 64, some (.agg [(.int .u8 0), (.int .u8 0), (.int .u8 0), (.int .u8 0), (.int .u8 0), (.int .u8 0), (.int .u8 0), (.int .u8 0), (.int .u8 0), (.int .u8 0), (.int .u8 0), (.int .u8 0), (.int .u8 0), (.int .u8 0), (.int .u8 0), (.int .u8 0), (.int .u8 0), (.int .u8 0), (.int .u8 0), (.int .u8 0), (.int .u8 0), (.int .u8 0), (.int .u8 0), (.int .u8 0), (.int .u8 0), (.int .u8 0), (.int .u8 0), (.int .u8 0), (.int .u8 0), (.int .u8 0), (.int .u8 0), (.int .u8 0), (.int .u8 0), (.int .u8 0), (.int .u8 0), (.int .u8 0), (.int .u8 0), (.int .u8 0), (.int .u8 0), (.int .u8 0), (.int .u8 0), (.int .u8 0), (.int .u8 0), (.int .u8 0), (.int .u8 0), (.int .u8 0), (.int .u8 0), (.int .u8 0), (.int .u8 0), (.int .u8 0), (.int .u8 0), (.int .u8 0), (.int .u8 0), (.int .u8 0), (.int .u8 0), (.int .u8 0), (.int .u8 0), (.int .u8 0), (.int .u8 0), (.int .u8 0), (.int .u8 0), (.int .u8 0), (.int .u8 0), (.int .u8 0)])⟩ := by kernel_rfl
@[push_cast] theorem t199 : ti Tryz.prog 199 = ⟨.func, 1, 8, some (.con .nilFunc)⟩ := by kernel_rfl
@[push_cast] theorem t200 : ti Tryz.prog 200 = ⟨(.struct [(0, 17), (1, 17), (2, 17), (3, 9)]), 4, 40, some (.agg [(.con (.pointer none)), (.con (.pointer none)), (.con (.pointer none)), (.str [])])⟩ := by kernel_rfl
@[push_cast] theorem t201 : ti Tryz.prog 201 = ⟨(.struct [(0, 17), (1, 17), (2, 17), (3, 9)]), 4, 40, some (.agg [(.con (.pointer none)), (.con (.pointer none)), (.con (.pointer none)), (.str [])])⟩ := by kernel_rfl
@[push_cast] theorem t202 : ti Tryz.prog 202 = ⟨(.arr 0 16), 0, 0, some (.agg [])⟩ := by kernel_rfl
@[push_cast] theorem t203 : ti Tryz.prog 203 = ⟨(.struct [(0, 202)]), 0, 0, some (.agg [])⟩ := by kernel_rfl
@[push_cast] theorem t204 : ti Tryz.prog 204 = ⟨(.struct [(0, 202)]), 0, 0, some (.agg [])⟩ := by kernel_rfl
@[push_cast] theorem t205 : ti Tryz.prog 205 = ⟨(.int .u8), 1, 1, some (.int .u8 0)⟩ := by kernel_rfl
@[push_cast] theorem t206 : ti Tryz.prog 206 = ⟨(.int .u8), 1, 1, some (.int .u8 0)⟩ := by kernel_rfl
@[push_cast] theorem t207 : ti Tryz.prog 207 = ⟨.func, 1, 8, some (.con .nilFunc)⟩ := by kernel_rfl
@[push_cast] theorem t208 : ti Tryz.prog 208 = ⟨(.int .i32), 1, 4, some (.int .i32 0)⟩ := by kernel_rfl
@[push_cast] theorem t209 : ti Tryz.prog 209 = ⟨(.int .i32), 1, 4, some (.int .i32 0)⟩ := by kernel_rfl
@[push_cast] theorem t210 : ti Tryz.prog 210 = ⟨(.struct [(0, 12), (1, 12), (2, 144), (3, 205), (4, 5), (5, 5), (6, 206), (7, 207), (8, 140), (9, 208), (10, 209)]), 11, 48, some (.agg [(.int .u64 0), (.int .u64 0), (.int .u32 0), (.int .u8 0), (.int .u8 0), (.int .u8 0), (.int .u8 0), (.con .nilFunc), (.con (.pointer none)), (.int .i32 0), (.int .i32 0)])⟩ := by kernel_rfl
@[push_cast] theorem t211 : ti Tryz.prog 211 = ⟨(.struct [(0, 12), (1, 12), (2, 144), (3, 205), (4, 5), (5, 5), (6, 206), (7, 207), (8, 140), (9, 208), (10, 209)]), 11, 48, some (.agg [(.int .u64 0), (.int .u64 0), (.int .u32 0), (.int .u8 0), (.int .u8 0), (.int .u8 0), (.int .u8 0), (.con .nilFunc), (.con (.pointer none)), (.int .i32 0), (.int .i32 0)])⟩ := by kernel_rfl
theorem n2 : Tryz.prog.funcs[2]? = some Tryz.f2 := by kernel_rfl
theorem e2 : entB Tryz.prog 2 = true := by kernel_rfl
theorem o2 : bodyOk (anL []) Tryz.f2 = true := by kernel_rfl
theorem n3 : Tryz.prog.funcs[3]? = some Tryz.f3 := by kernel_rfl
theorem e3 : entB Tryz.prog 3 = true := by kernel_rfl
theorem o3 : bodyOk (anL []) Tryz.f3 = true := by kernel_rfl
theorem w3 {ct : Ct} (ow : Nat → Bool) (ad : List Adj) {code : Code} (hb : Tryz.f3.body = some code) (hc : CtOk pg ct) {args : List V} {r : V} (ha : Nat.ble args.length 37 = true) (hr : r.noId = true) (h : exec ⟨pg, ct, ow, 37, anL []⟩ code ⟨argE args, hOf []⟩ (PostF pg.prog ad [.tmp 2] r [])) : PCall pg 3 args r := pcall_inF ad hc fol 3 n3 hb rfl e3 rfl (bodyOk_at o3 hb rfl) ha hr h
theorem n4 : Tryz.prog.funcs[4]? = some Tryz.f4 := by kernel_rfl
theorem e4 : entB Tryz.prog 4 = true := by kernel_rfl
theorem o4 : bodyOk (anL []) Tryz.f4 = true := by kernel_rfl
theorem n6 : Tryz.prog.funcs[6]? = some Tryz.f6 := by kernel_rfl
theorem e6 : entB Tryz.prog 6 = true := by kernel_rfl
theorem o6 : bodyOk (anL [(10, [0, 1, 3, 0, 8, 24, 0, 0, 0, 384, 896, 2047, 0, 8191])]) Tryz.f6 = true := by kernel_rfl
theorem w6 {ct : Ct} (ow : Nat → Bool) (ad : List Adj) {code : Code} (hb : Tryz.f6.body = some code) (hc : CtOk pg ct) {args : List V} {r : V} (ha : Nat.ble args.length 80 = true) (hr : r.noId = true) (h : exec ⟨pg, ct, ow, 80, anL [(10, [0, 1, 3, 0, 8, 24, 0, 0, 0, 384, 896, 2047, 0, 8191])]⟩ code ⟨argE args, hOf []⟩ (PostF pg.prog ad [.cell 2 25, .tmp 3, .tmp 4] r [])) : PCall pg 6 args r := pcall_inF ad hc fol 6 n6 hb rfl e6 rfl (bodyOk_at o6 hb rfl) ha hr h
theorem n7 : Tryz.prog.funcs[7]? = some Tryz.f7 := by kernel_rfl
theorem e7 : entB Tryz.prog 7 = true := by kernel_rfl
theorem o7 : bodyOk (anL [(10, [0, 1, 3, 0, 8, 24, 0, 127, 0, 511]), (11, [0, 1, 0, 0, 12, 31, 63, 127])]) Tryz.f7 = true := by kernel_rfl
theorem w7 {ct : Ct} (ow : Nat → Bool) (ad : List Adj) {code : Code} (hb : Tryz.f7.body = some code) (hc : CtOk pg ct) {args : List V} {r : V} (ha : Nat.ble args.length 88 = true) (hr : r.noId = true) (h : exec ⟨pg, ct, ow, 88, anL [(10, [0, 1, 3, 0, 8, 24, 0, 127, 0, 511]), (11, [0, 1, 0, 0, 12, 31, 63, 127])]⟩ code ⟨argE args, hOf []⟩ (PostF pg.prog ad [.cell 2 25, .tmp 3, .tmp 4] r [])) : PCall pg 7 args r := pcall_inF ad hc fol 7 n7 hb rfl e7 rfl (bodyOk_at o7 hb rfl) ha hr h
theorem n8 : Tryz.prog.funcs[8]? = some Tryz.f8 := by kernel_rfl
theorem e8 : entB Tryz.prog 8 = true := by kernel_rfl
theorem o8 : bodyOk (anL []) Tryz.f8 = true := by kernel_rfl
theorem w8 {ct : Ct} (ow : Nat → Bool) (ad : List Adj) {code : Code} (hb : Tryz.f8.body = some code) (hc : CtOk pg ct) {args : List V} {r : V} (ha : Nat.ble args.length 31 = true) (hr : r.noId = true) (h : exec ⟨pg, ct, ow, 31, anL []⟩ code ⟨argE args, hOf []⟩ (PostF pg.prog ad [.tmp 4] r [])) : PCall pg 8 args r := pcall_inF ad hc fol 8 n8 hb rfl e8 rfl (bodyOk_at o8 hb rfl) ha hr h
theorem n9 : Tryz.prog.funcs[9]? = some Tryz.f9 := by kernel_rfl
theorem e9 : entB Tryz.prog 9 = true := by kernel_rfl
theorem o9 : bodyOk (anL []) Tryz.f9 = true := by kernel_rfl
theorem w9 {ct : Ct} (ow : Nat → Bool) (ad : List Adj) {code : Code} (hb : Tryz.f9.body = some code) (hc : CtOk pg ct) {args : List V} {r : V} (ha : Nat.ble args.length 13 = true) (hr : r.noId = true) (h : exec ⟨pg, ct, ow, 13, anL []⟩ code ⟨argE args, hOf []⟩ (PostF pg.prog ad [.tmp 0] r [])) : PCall pg 9 args r := pcall_inF ad hc fol 9 n9 hb rfl e9 rfl (bodyOk_at o9 hb rfl) ha hr h
theorem n13 : Tryz.prog.funcs[13]? = some Tryz.f13 := by kernel_rfl
theorem e13 : entB Tryz.prog 13 = true := by kernel_rfl
theorem o13 : bodyOk (anL []) Tryz.f13 = true := by kernel_rfl
theorem w13 {ct : Ct} (ow : Nat → Bool) (ad : List Adj) {code : Code} (hb : Tryz.f13.body = some code) (hc : CtOk pg ct) {args : List V} {r : V} (ha : Nat.ble args.length 10 = true) (hr : r.noId = true) (h : exec ⟨pg, ct, ow, 10, anL []⟩ code ⟨argE args, hOf []⟩ (PostF pg.prog ad [.tmp 4] r [])) : PCall pg 13 args r := pcall_inF ad hc fol 13 n13 hb rfl e13 rfl (bodyOk_at o13 hb rfl) ha hr h
theorem n16 : Tryz.prog.funcs[16]? = some Tryz.f16 := by kernel_rfl
theorem e16 : entB Tryz.prog 16 = true := by kernel_rfl
theorem o16 : bodyOk (anL []) Tryz.f16 = true := by kernel_rfl
theorem w16 {ct : Ct} (ow : Nat → Bool) (ad : List Adj) {code : Code} (hb : Tryz.f16.body = some code) (hc : CtOk pg ct) {args : List V} {r : V} (ha : Nat.ble args.length 55 = true) (hr : r.noId = true) (h : exec ⟨pg, ct, ow, 55, anL []⟩ code ⟨argE args, hOf []⟩ (PostF pg.prog ad [.tmp 4, .tmp 5, .tmp 6] r [])) : PCall pg 16 args r := pcall_inF ad hc fol 16 n16 hb rfl e16 rfl (bodyOk_at o16 hb rfl) ha hr h
theorem n18 : Tryz.prog.funcs[18]? = some Tryz.f18 := by kernel_rfl
theorem e18 : entB Tryz.prog 18 = true := by kernel_rfl
theorem o18 : bodyOk (anL []) Tryz.f18 = true := by kernel_rfl
theorem w18 {ct : Ct} (ow : Nat → Bool) (ad : List Adj) {code : Code} (hb : Tryz.f18.body = some code) (hc : CtOk pg ct) {args : List V} {r : V} (ha : Nat.ble args.length 45 = true) (hr : r.noId = true) (h : exec ⟨pg, ct, ow, 45, anL []⟩ code ⟨argE args, hOf []⟩ (PostF pg.prog ad [.tmp 4, .tmp 5, .tmp 6] r [])) : PCall pg 18 args r := pcall_inF ad hc fol 18 n18 hb rfl e18 rfl (bodyOk_at o18 hb rfl) ha hr h
theorem n19 : Tryz.prog.funcs[19]? = some Tryz.f19 := by kernel_rfl
theorem e19 : entB Tryz.prog 19 = true := by kernel_rfl
theorem o19 : bodyOk (anL []) Tryz.f19 = true := by kernel_rfl
theorem w19 {ct : Ct} (ow : Nat → Bool) (ad : List Adj) {code : Code} (hb : Tryz.f19.body = some code) (hc : CtOk pg ct) {args : List V} {r : V} (ha : Nat.ble args.length 62 = true) (hr : r.noId = true) (h : exec ⟨pg, ct, ow, 62, anL []⟩ code ⟨argE args, hOf []⟩ (PostF pg.prog ad [.tmp 2] r [])) : PCall pg 19 args r := pcall_inF ad hc fol 19 n19 hb rfl e19 rfl (bodyOk_at o19 hb rfl) ha hr h
theorem n20 : Tryz.prog.funcs[20]? = some Tryz.f20 := by kernel_rfl
theorem e20 : entB Tryz.prog 20 = true := by kernel_rfl
theorem o20 : bodyOk (anL []) Tryz.f20 = true := by kernel_rfl
theorem w20 {ct : Ct} (ow : Nat → Bool) (ad : List Adj) {code : Code} (hb : Tryz.f20.body = some code) (hc : CtOk pg ct) {args : List V} {r : V} (ha : Nat.ble args.length 30 = true) (hr : r.noId = true) (h : exec ⟨pg, ct, ow, 30, anL []⟩ code ⟨argE args, hOf []⟩ (PostF pg.prog ad [.tmp 4, .tmp 5] r [])) : PCall pg 20 args r := pcall_inF ad hc fol 20 n20 hb rfl e20 rfl (bodyOk_at o20 hb rfl) ha hr h
theorem n21 : Tryz.prog.funcs[21]? = some Tryz.f21 := by kernel_rfl
theorem e21 : entB Tryz.prog 21 = true := by kernel_rfl
theorem o21 : bodyOk (anL []) Tryz.f21 = true := by kernel_rfl
theorem w21 {ct : Ct} (ow : Nat → Bool) (ad : List Adj) {code : Code} (hb : Tryz.f21.body = some code) (hc : CtOk pg ct) {args : List V} {r : V} (ha : Nat.ble args.length 11 = true) (hr : r.noId = true) (h : exec ⟨pg, ct, ow, 11, anL []⟩ code ⟨argE args, hOf []⟩ (PostF pg.prog ad [.tmp 2] r [])) : PCall pg 21 args r := pcall_inF ad hc fol 21 n21 hb rfl e21 rfl (bodyOk_at o21 hb rfl) ha hr h
theorem n22 : Tryz.prog.funcs[22]? = some Tryz.f22 := by kernel_rfl
theorem e22 : entB Tryz.prog 22 = true := by kernel_rfl
theorem o22 : bodyOk (anL []) Tryz.f22 = true := by kernel_rfl
theorem w22 {ct : Ct} (ow : Nat → Bool) (ad : List Adj) {code : Code} (hb : Tryz.f22.body = some code) (hc : CtOk pg ct) {args : List V} {r : V} (ha : Nat.ble args.length 62 = true) (hr : r.noId = true) (h : exec ⟨pg, ct, ow, 62, anL []⟩ code ⟨argE args, hOf []⟩ (PostF pg.prog ad [.tmp 4, .tmp 5, .tmp 6] r [])) : PCall pg 22 args r := pcall_inF ad hc fol 22 n22 hb rfl e22 rfl (bodyOk_at o22 hb rfl) ha hr h
theorem n23 : Tryz.prog.funcs[23]? = some Tryz.f23 := by kernel_rfl
theorem e23 : entB Tryz.prog 23 = true := by kernel_rfl
theorem o23 : bodyOk (anL [(12, [0, 1, 3, 7, 15, 31, 63, 127, 255, 511, 127, 1151, 3199, 7295, 16383, 32767, 65535, 131071, 262143, 524287, 1048575, 2097151, 4194303, 8388607])]) Tryz.f23 = true := by kernel_rfl
theorem w23 {ct : Ct} (ow : Nat → Bool) (ad : List Adj) {code : Code} (hb : Tryz.f23.body = some code) (hc : CtOk pg ct) {args : List V} {r : V} (ha : Nat.ble args.length 60 = true) (hr : r.noId = true) (h : exec ⟨pg, ct, ow, 60, anL [(12, [0, 1, 3, 7, 15, 31, 63, 127, 255, 511, 127, 1151, 3199, 7295, 16383, 32767, 65535, 131071, 262143, 524287, 1048575, 2097151, 4194303, 8388607])]⟩ code ⟨argE args, hOf []⟩ (PostF pg.prog ad [.tmp 2] r [])) : PCall pg 23 args r := pcall_inF ad hc fol 23 n23 hb rfl e23 rfl (bodyOk_at o23 hb rfl) ha hr h
theorem n24 : Tryz.prog.funcs[24]? = some Tryz.f24 := by kernel_rfl
theorem e24 : entB Tryz.prog 24 = true := by kernel_rfl
theorem o24 : bodyOk (anL [(6, [0, 0, 3, 7, 0, 0, 48, 112, 255])]) Tryz.f24 = true := by kernel_rfl
theorem w24 {ct : Ct} (ow : Nat → Bool) (ad : List Adj) {code : Code} (hb : Tryz.f24.body = some code) (hc : CtOk pg ct) {args : List V} {r : V} (ha : Nat.ble args.length 26 = true) (hr : r.noId = true) (h : exec ⟨pg, ct, ow, 26, anL [(6, [0, 0, 3, 7, 0, 0, 48, 112, 255])]⟩ code ⟨argE args, hOf []⟩ (PostF pg.prog ad [.tmp 4] r [])) : PCall pg 24 args r := pcall_inF ad hc fol 24 n24 hb rfl e24 rfl (bodyOk_at o24 hb rfl) ha hr h
theorem n25 : Tryz.prog.funcs[25]? = some Tryz.f25 := by kernel_rfl
theorem e25 : entB Tryz.prog 25 = true := by kernel_rfl
theorem o25 : bodyOk (anL []) Tryz.f25 = true := by kernel_rfl
theorem w25 {ct : Ct} (ow : Nat → Bool) (ad : List Adj) {code : Code} (hb : Tryz.f25.body = some code) (hc : CtOk pg ct) {args : List V} {r : V} (ha : Nat.ble args.length 9 = true) (hr : r.noId = true) (h : exec ⟨pg, ct, ow, 9, anL []⟩ code ⟨argE args, hOf []⟩ (PostF pg.prog ad [.tmp 2, .tmp 3] r [])) : PCall pg 25 args r := pcall_inF ad hc fol 25 n25 hb rfl e25 rfl (bodyOk_at o25 hb rfl) ha hr h
theorem n27 : Tryz.prog.funcs[27]? = some Tryz.f27 := by kernel_rfl
theorem e27 : entB Tryz.prog 27 = true := by kernel_rfl
theorem o27 : bodyOk (anL []) Tryz.f27 = true := by kernel_rfl
theorem fw27 {ct : Ct} (ow : Nat → Bool) (ad : List Adj) {code : Code} (hb : Tryz.f27.body = some code) (hc : CtOk pg ct) {args : List V} {hl hl' : HL} {r : V} (ha : Nat.ble args.length 25 = true) (hlo : ∀ p ∈ hl, 9000 ≤ p.1) (hin : hlIn (idsIn hl) hl') (hr : V.menIn (idsIn hl) r = true) (h : exec ⟨pg, ct, ow, 25, anL []⟩ code ⟨argE args, hOf hl⟩ (PostF pg.prog ad [.tmp 4] r hl')) : FCall pg 27 args hl r hl' := fcall_inF ad hc fol 27 n27 hb rfl e27 rfl (bodyOk_at o27 hb rfl) ha hlo hin hr h
theorem n31 : Tryz.prog.funcs[31]? = some Tryz.f31 := by kernel_rfl
theorem e31 : entB Tryz.prog 31 = true := by kernel_rfl
theorem o31 : bodyOk (anL []) Tryz.f31 = true := by kernel_rfl
theorem w31 {ct : Ct} (ow : Nat → Bool) (ad : List Adj) {code : Code} (hb : Tryz.f31.body = some code) (hc : CtOk pg ct) {args : List V} {r : V} (ha : Nat.ble args.length 33 = true) (hr : r.noId = true) (h : exec ⟨pg, ct, ow, 33, anL []⟩ code ⟨argE args, hOf []⟩ (PostF pg.prog ad [.tmp 2, .tmp 3] r [])) : PCall pg 31 args r := pcall_inF ad hc fol 31 n31 hb rfl e31 rfl (bodyOk_at o31 hb rfl) ha hr h
theorem n37 : Tryz.prog.funcs[37]? = some Tryz.f37 := by kernel_rfl
theorem e37 : entB Tryz.prog 37 = true := by kernel_rfl
theorem o37 : bodyOk (anL []) Tryz.f37 = true := by kernel_rfl
theorem w37 {ct : Ct} (ow : Nat → Bool) (ad : List Adj) {code : Code} (hb : Tryz.f37.body = some code) (hc : CtOk pg ct) {args : List V} {r : V} (ha : Nat.ble args.length 9 = true) (hr : r.noId = true) (h : exec ⟨pg, ct, ow, 9, anL []⟩ code ⟨argE args, hOf []⟩ (PostF pg.prog ad [.tmp 2] r [])) : PCall pg 37 args r := pcall_inF ad hc fol 37 n37 hb rfl e37 rfl (bodyOk_at o37 hb rfl) ha hr h
theorem n46 : Tryz.prog.funcs[46]? = some Tryz.f46 := by kernel_rfl
theorem e46 : entB Tryz.prog 46 = true := by kernel_rfl
theorem o46 : bodyOk (anL []) Tryz.f46 = true := by kernel_rfl
theorem w46 {ct : Ct} (ow : Nat → Bool) (ad : List Adj) {code : Code} (hb : Tryz.f46.body = some code) (hc : CtOk pg ct) {args : List V} {r : V} (ha : Nat.ble args.length 15 = true) (hr : r.noId = true) (h : exec ⟨pg, ct, ow, 15, anL []⟩ code ⟨argE args, hOf []⟩ (PostF pg.prog ad [.tmp 6] r [])) : PCall pg 46 args r := pcall_inF ad hc fol 46 n46 hb rfl e46 rfl (bodyOk_at o46 hb rfl) ha hr h
theorem n49 : Tryz.prog.funcs[49]? = some Tryz.f49 := by kernel_rfl
theorem e49 : entB Tryz.prog 49 = true := by kernel_rfl
theorem o49 : bodyOk (anL []) Tryz.f49 = true := by kernel_rfl
theorem w49 {ct : Ct} (ow : Nat → Bool) (ad : List Adj) {code : Code} (hb : Tryz.f49.body = some code) (hc : CtOk pg ct) {args : List V} {r : V} (ha : Nat.ble args.length 27 = true) (hr : r.noId = true) (h : exec ⟨pg, ct, ow, 27, anL []⟩ code ⟨argE args, hOf []⟩ (PostF pg.prog ad [.cell 2 61, .tmp 3] r [])) : PCall pg 49 args r := pcall_inF ad hc fol 49 n49 hb rfl e49 rfl (bodyOk_at o49 hb rfl) ha hr h
theorem n50 : Tryz.prog.funcs[50]? = some Tryz.f50 := by kernel_rfl
theorem e50 : entB Tryz.prog 50 = true := by kernel_rfl
theorem o50 : bodyOk (anL []) Tryz.f50 = true := by kernel_rfl
theorem w50 {ct : Ct} (ow : Nat → Bool) (ad : List Adj) {code : Code} (hb : Tryz.f50.body = some code) (hc : CtOk pg ct) {args : List V} {r : V} (ha : Nat.ble args.length 50 = true) (hr : r.noId = true) (h : exec ⟨pg, ct, ow, 50, anL []⟩ code ⟨argE args, hOf []⟩ (PostF pg.prog ad [.tmp 2] r [])) : PCall pg 50 args r := pcall_inF ad hc fol 50 n50 hb rfl e50 rfl (bodyOk_at o50 hb rfl) ha hr h
theorem n51 : Tryz.prog.funcs[51]? = some Tryz.f51 := by kernel_rfl
theorem e51 : entB Tryz.prog 51 = true := by kernel_rfl
theorem o51 : bodyOk (anL []) Tryz.f51 = true := by kernel_rfl
theorem w51 {ct : Ct} (ow : Nat → Bool) (ad : List Adj) {code : Code} (hb : Tryz.f51.body = some code) (hc : CtOk pg ct) {args : List V} {r : V} (ha : Nat.ble args.length 28 = true) (hr : r.noId = true) (h : exec ⟨pg, ct, ow, 28, anL []⟩ code ⟨argE args, hOf []⟩ (PostF pg.prog ad [.tmp 2] r [])) : PCall pg 51 args r := pcall_inF ad hc fol 51 n51 hb rfl e51 rfl (bodyOk_at o51 hb rfl) ha hr h
theorem n52 : Tryz.prog.funcs[52]? = some Tryz.f52 := by kernel_rfl
theorem e52 : entB Tryz.prog 52 = true := by kernel_rfl
theorem o52 : bodyOk (anL []) Tryz.f52 = true := by kernel_rfl
theorem w52 {ct : Ct} (ow : Nat → Bool) (ad : List Adj) {code : Code} (hb : Tryz.f52.body = some code) (hc : CtOk pg ct) {args : List V} {r : V} (ha : Nat.ble args.length 23 = true) (hr : r.noId = true) (h : exec ⟨pg, ct, ow, 23, anL []⟩ code ⟨argE args, hOf []⟩ (PostF pg.prog ad [.tmp 2] r [])) : PCall pg 52 args r := pcall_inF ad hc fol 52 n52 hb rfl e52 rfl (bodyOk_at o52 hb rfl) ha hr h
theorem n53 : Tryz.prog.funcs[53]? = some Tryz.f53 := by kernel_rfl
theorem e53 : entB Tryz.prog 53 = true := by kernel_rfl
theorem o53 : bodyOk (anL []) Tryz.f53 = true := by kernel_rfl
theorem w53 {ct : Ct} (ow : Nat → Bool) (ad : List Adj) {code : Code} (hb : Tryz.f53.body = some code) (hc : CtOk pg ct) {args : List V} {r : V} (ha : Nat.ble args.length 26 = true) (hr : r.noId = true) (h : exec ⟨pg, ct, ow, 26, anL []⟩ code ⟨argE args, hOf []⟩ (PostF pg.prog ad [.tmp 4] r [])) : PCall pg 53 args r := pcall_inF ad hc fol 53 n53 hb rfl e53 rfl (bodyOk_at o53 hb rfl) ha hr h
theorem n55 : Tryz.prog.funcs[55]? = some Tryz.f55 := by kernel_rfl
theorem e55 : entB Tryz.prog 55 = true := by kernel_rfl
theorem o55 : bodyOk (anL []) Tryz.f55 = true := by kernel_rfl
theorem w55 {ct : Ct} (ow : Nat → Bool) (ad : List Adj) {code : Code} (hb : Tryz.f55.body = some code) (hc : CtOk pg ct) {args : List V} {r : V} (ha : Nat.ble args.length 8 = true) (hr : r.noId = true) (h : exec ⟨pg, ct, ow, 8, anL []⟩ code ⟨argE args, hOf []⟩ (PostF pg.prog ad [.tmp 4] r [])) : PCall pg 55 args r := pcall_inF ad hc fol 55 n55 hb rfl e55 rfl (bodyOk_at o55 hb rfl) ha hr h
theorem n57 : Tryz.prog.funcs[57]? = some Tryz.f57 := by kernel_rfl
theorem e57 : entB Tryz.prog 57 = true := by kernel_rfl
theorem o57 : bodyOk (anL []) Tryz.f57 = true := by kernel_rfl
theorem w57 {ct : Ct} (ow : Nat → Bool) (ad : List Adj) {code : Code} (hb : Tryz.f57.body = some code) (hc : CtOk pg ct) {args : List V} {r : V} (ha : Nat.ble args.length 45 = true) (hr : r.noId = true) (h : exec ⟨pg, ct, ow, 45, anL []⟩ code ⟨argE args, hOf []⟩ (PostF pg.prog ad [.tmp 2] r [])) : PCall pg 57 args r := pcall_inF ad hc fol 57 n57 hb rfl e57 rfl (bodyOk_at o57 hb rfl) ha hr h
theorem n58 : Tryz.prog.funcs[58]? = some Tryz.f58 := by kernel_rfl
theorem e58 : entB Tryz.prog 58 = true := by kernel_rfl
theorem o58 : bodyOk (anL []) Tryz.f58 = true := by kernel_rfl
theorem w58 {ct : Ct} (ow : Nat → Bool) (ad : List Adj) {code : Code} (hb : Tryz.f58.body = some code) (hc : CtOk pg ct) {args : List V} {r : V} (ha : Nat.ble args.length 23 = true) (hr : r.noId = true) (h : exec ⟨pg, ct, ow, 23, anL []⟩ code ⟨argE args, hOf []⟩ (PostF pg.prog ad [.tmp 2] r [])) : PCall pg 58 args r := pcall_inF ad hc fol 58 n58 hb rfl e58 rfl (bodyOk_at o58 hb rfl) ha hr h
theorem n59 : Tryz.prog.funcs[59]? = some Tryz.f59 := by kernel_rfl
theorem e59 : entB Tryz.prog 59 = true := by kernel_rfl
theorem o59 : bodyOk (anL []) Tryz.f59 = true := by kernel_rfl
theorem w59 {ct : Ct} (ow : Nat → Bool) (ad : List Adj) {code : Code} (hb : Tryz.f59.body = some code) (hc : CtOk pg ct) {args : List V} {r : V} (ha : Nat.ble args.length 27 = true) (hr : r.noId = true) (h : exec ⟨pg, ct, ow, 27, anL []⟩ code ⟨argE args, hOf []⟩ (PostF pg.prog ad [.tmp 2] r [])) : PCall pg 59 args r := pcall_inF ad hc fol 59 n59 hb rfl e59 rfl (bodyOk_at o59 hb rfl) ha hr h
theorem n60 : Tryz.prog.funcs[60]? = some Tryz.f60 := by kernel_rfl
theorem e60 : entB Tryz.prog 60 = true := by kernel_rfl
theorem o60 : bodyOk (anL []) Tryz.f60 = true := by kernel_rfl
theorem w60 {ct : Ct} (ow : Nat → Bool) (ad : List Adj) {code : Code} (hb : Tryz.f60.body = some code) (hc : CtOk pg ct) {args : List V} {r : V} (ha : Nat.ble args.length 30 = true) (hr : r.noId = true) (h : exec ⟨pg, ct, ow, 30, anL []⟩ code ⟨argE args, hOf []⟩ (PostF pg.prog ad [.tmp 4] r [])) : PCall pg 60 args r := pcall_inF ad hc fol 60 n60 hb rfl e60 rfl (bodyOk_at o60 hb rfl) ha hr h
theorem n61 : Tryz.prog.funcs[61]? = some Tryz.f61 := by kernel_rfl
theorem e61 : entB Tryz.prog 61 = true := by kernel_rfl
theorem o61 : bodyOk (anL [(2, [0, 0, 2, 6, 14, 31, 63, 127, 0, 256, 769, 2047, 4095, 1793, 0, 16384, 49152, 124673, 255745, 524287, 1048575, 0, 2097152, 6301441, 16777215, 33554431, 0, 67108864, 216016641, 536870911, 1073741823, 0, 2147483648, 6926903041, 17179869183, 34359738367, 0, 68719476736, 221675267841, 549755813887, 1099511627775, 2199023255551])]) Tryz.f61 = true := by kernel_rfl
theorem w61 {ct : Ct} (ow : Nat → Bool) (ad : List Adj) {code : Code} (hb : Tryz.f61.body = some code) (hc : CtOk pg ct) {args : List V} {r : V} (ha : Nat.ble args.length 47 = true) (hr : r.noId = true) (h : exec ⟨pg, ct, ow, 47, anL [(2, [0, 0, 2, 6, 14, 31, 63, 127, 0, 256, 769, 2047, 4095, 1793, 0, 16384, 49152, 124673, 255745, 524287, 1048575, 0, 2097152, 6301441, 16777215, 33554431, 0, 67108864, 216016641, 536870911, 1073741823, 0, 2147483648, 6926903041, 17179869183, 34359738367, 0, 68719476736, 221675267841, 549755813887, 1099511627775, 2199023255551])]⟩ code ⟨argE args, hOf []⟩ (PostF pg.prog ad [.tmp 2] r [])) : PCall pg 61 args r := pcall_inF ad hc fol 61 n61 hb rfl e61 rfl (bodyOk_at o61 hb rfl) ha hr h
theorem n65 : Tryz.prog.funcs[65]? = some Tryz.f65 := by kernel_rfl
theorem e65 : entB Tryz.prog 65 = true := by kernel_rfl
theorem o65 : bodyOk (anL []) Tryz.f65 = true := by kernel_rfl
theorem w65 {ct : Ct} (ow : Nat → Bool) (ad : List Adj) {code : Code} (hb : Tryz.f65.body = some code) (hc : CtOk pg ct) {args : List V} {r : V} (ha : Nat.ble args.length 28 = true) (hr : r.noId = true) (h : exec ⟨pg, ct, ow, 28, anL []⟩ code ⟨argE args, hOf []⟩ (PostF pg.prog ad [.tmp 4] r [])) : PCall pg 65 args r := pcall_inF ad hc fol 65 n65 hb rfl e65 rfl (bodyOk_at o65 hb rfl) ha hr h
theorem n67 : Tryz.prog.funcs[67]? = some Tryz.f67 := by kernel_rfl
theorem e67 : entB Tryz.prog 67 = true := by kernel_rfl
theorem o67 : bodyOk (anL []) Tryz.f67 = true := by kernel_rfl
theorem w67 {ct : Ct} (ow : Nat → Bool) (ad : List Adj) {code : Code} (hb : Tryz.f67.body = some code) (hc : CtOk pg ct) {args : List V} {r : V} (ha : Nat.ble args.length 35 = true) (hr : r.noId = true) (h : exec ⟨pg, ct, ow, 35, anL []⟩ code ⟨argE args, hOf []⟩ (PostF pg.prog ad [.tmp 2] r [])) : PCall pg 67 args r := pcall_inF ad hc fol 67 n67 hb rfl e67 rfl (bodyOk_at o67 hb rfl) ha hr h
theorem n73 : Tryz.prog.funcs[73]? = some Tryz.f73 := by kernel_rfl
theorem e73 : entB Tryz.prog 73 = true := by kernel_rfl
theorem o73 : bodyOk (anL []) Tryz.f73 = true := by kernel_rfl
theorem w73 {ct : Ct} (ow : Nat → Bool) (ad : List Adj) {code : Code} (hb : Tryz.f73.body = some code) (hc : CtOk pg ct) {args : List V} {r : V} (ha : Nat.ble args.length 30 = true) (hr : r.noId = true) (h : exec ⟨pg, ct, ow, 30, anL []⟩ code ⟨argE args, hOf []⟩ (PostF pg.prog ad [.tmp 2] r [])) : PCall pg 73 args r := pcall_inF ad hc fol 73 n73 hb rfl e73 rfl (bodyOk_at o73 hb rfl) ha hr h
theorem n94 : Tryz.prog.funcs[94]? = some Tryz.f94 := by kernel_rfl
theorem e94 : entB Tryz.prog 94 = true := by kernel_rfl
theorem o94 : bodyOk (anL []) Tryz.f94 = true := by kernel_rfl
theorem w94 {ct : Ct} (ow : Nat → Bool) (ad : List Adj) {code : Code} (hb : Tryz.f94.body = some code) (hc : CtOk pg ct) {args : List V} {r : V} (ha : Nat.ble args.length 33 = true) (hr : r.noId = true) (h : exec ⟨pg, ct, ow, 33, anL []⟩ code ⟨argE args, hOf []⟩ (PostF pg.prog ad [.tmp 2] r [])) : PCall pg 94 args r := pcall_inF ad hc fol 94 n94 hb rfl e94 rfl (bodyOk_at o94 hb rfl) ha hr h
theorem n106 : Tryz.prog.funcs[106]? = some Tryz.f106 := by kernel_rfl
theorem e106 : entB Tryz.prog 106 = true := by kernel_rfl
theorem o106 : bodyOk (anL []) Tryz.f106 = true := by kernel_rfl
theorem w106 {ct : Ct} (ow : Nat → Bool) (ad : List Adj) {code : Code} (hb : Tryz.f106.body = some code) (hc : CtOk pg ct) {args : List V} {r : V} (ha : Nat.ble args.length 8 = true) (hr : r.noId = true) (h : exec ⟨pg, ct, ow, 8, anL []⟩ code ⟨argE args, hOf []⟩ (PostF pg.prog ad [.tmp 4] r [])) : PCall pg 106 args r := pcall_inF ad hc fol 106 n106 hb rfl e106 rfl (bodyOk_at o106 hb rfl) ha hr h
theorem n108 : Tryz.prog.funcs[108]? = some Tryz.f108 := by kernel_rfl
theorem e108 : entB Tryz.prog 108 = true := by kernel_rfl
theorem o108 : bodyOk (anL []) Tryz.f108 = true := by kernel_rfl
theorem w108 {ct : Ct} (ow : Nat → Bool) (ad : List Adj) {code : Code} (hb : Tryz.f108.body = some code) (hc : CtOk pg ct) {args : List V} {r : V} (ha : Nat.ble args.length 35 = true) (hr : r.noId = true) (h : exec ⟨pg, ct, ow, 35, anL []⟩ code ⟨argE args, hOf []⟩ (PostF pg.prog ad [.tmp 2] r [])) : PCall pg 108 args r := pcall_inF ad hc fol 108 n108 hb rfl e108 rfl (bodyOk_at o108 hb rfl) ha hr h
theorem n109 : Tryz.prog.funcs[109]? = some Tryz.f109 := by kernel_rfl
theorem e109 : entB Tryz.prog 109 = true := by kernel_rfl
theorem o109 : bodyOk (anL []) Tryz.f109 = true := by kernel_rfl
theorem w109 {ct : Ct} (ow : Nat → Bool) (ad : List Adj) {code : Code} (hb : Tryz.f109.body = some code) (hc : CtOk pg ct) {args : List V} {r : V} (ha : Nat.ble args.length 58 = true) (hr : r.noId = true) (h : exec ⟨pg, ct, ow, 58, anL []⟩ code ⟨argE args, hOf []⟩ (PostF pg.prog ad [.cell 2 128] r [])) : PCall pg 109 args r := pcall_inF ad hc fol 109 n109 hb rfl e109 rfl (bodyOk_at o109 hb rfl) ha hr h
theorem n110 : Tryz.prog.funcs[110]? = some Tryz.f110 := by kernel_rfl
theorem e110 : entB Tryz.prog 110 = true := by kernel_rfl
theorem o110 : bodyOk (anL []) Tryz.f110 = true := by kernel_rfl
theorem w110 {ct : Ct} (ow : Nat → Bool) (ad : List Adj) {code : Code} (hb : Tryz.f110.body = some code) (hc : CtOk pg ct) {args : List V} {r : V} (ha : Nat.ble args.length 2 = true) (hr : r.noId = true) (h : exec ⟨pg, ct, ow, 2, anL []⟩ code ⟨argE args, hOf []⟩ (PostF pg.prog ad [.tmp 0] r [])) : PCall pg 110 args r := pcall_inF ad hc fol 110 n110 hb rfl e110 rfl (bodyOk_at o110 hb rfl) ha hr h
theorem n111 : Tryz.prog.funcs[111]? = some Tryz.f111 := by kernel_rfl
theorem e111 : entB Tryz.prog 111 = true := by kernel_rfl
theorem o111 : bodyOk (anL []) Tryz.f111 = true := by kernel_rfl
theorem w111 {ct : Ct} (ow : Nat → Bool) (ad : List Adj) {code : Code} (hb : Tryz.f111.body = some code) (hc : CtOk pg ct) {args : List V} {r : V} (ha : Nat.ble args.length 16 = true) (hr : r.noId = true) (h : exec ⟨pg, ct, ow, 16, anL []⟩ code ⟨argE args, hOf []⟩ (PostF pg.prog ad [.tmp 4] r [])) : PCall pg 111 args r := pcall_inF ad hc fol 111 n111 hb rfl e111 rfl (bodyOk_at o111 hb rfl) ha hr h
theorem n112 : Tryz.prog.funcs[112]? = some Tryz.f112 := by kernel_rfl
theorem e112 : entB Tryz.prog 112 = true := by kernel_rfl
theorem o112 : bodyOk (anL []) Tryz.f112 = true := by kernel_rfl
theorem w112 {ct : Ct} (ow : Nat → Bool) (ad : List Adj) {code : Code} (hb : Tryz.f112.body = some code) (hc : CtOk pg ct) {args : List V} {r : V} (ha : Nat.ble args.length 2 = true) (hr : r.noId = true) (h : exec ⟨pg, ct, ow, 2, anL []⟩ code ⟨argE args, hOf []⟩ (PostF pg.prog ad [.tmp 0] r [])) : PCall pg 112 args r := pcall_inF ad hc fol 112 n112 hb rfl e112 rfl (bodyOk_at o112 hb rfl) ha hr h
theorem n118 : Tryz.prog.funcs[118]? = some Tryz.f118 := by kernel_rfl
theorem e118 : entB Tryz.prog 118 = true := by kernel_rfl
theorem o118 : bodyOk (anL []) Tryz.f118 = true := by kernel_rfl
theorem w118 {ct : Ct} (ow : Nat → Bool) (ad : List Adj) {code : Code} (hb : Tryz.f118.body = some code) (hc : CtOk pg ct) {args : List V} {r : V} (ha : Nat.ble args.length 5 = true) (hr : r.noId = true) (h : exec ⟨pg, ct, ow, 5, anL []⟩ code ⟨argE args, hOf []⟩ (PostF pg.prog ad [.tmp 2] r [])) : PCall pg 118 args r := pcall_inF ad hc fol 118 n118 hb rfl e118 rfl (bodyOk_at o118 hb rfl) ha hr h
theorem n146 : Tryz.prog.funcs[146]? = some Tryz.f146 := by kernel_rfl
theorem e146 : entB Tryz.prog 146 = true := by kernel_rfl
theorem o146 : bodyOk (anL []) Tryz.f146 = true := by kernel_rfl
theorem w146 {ct : Ct} (ow : Nat → Bool) (ad : List Adj) {code : Code} (hb : Tryz.f146.body = some code) (hc : CtOk pg ct) {args : List V} {r : V} (ha : Nat.ble args.length 33 = true) (hr : r.noId = true) (h : exec ⟨pg, ct, ow, 33, anL []⟩ code ⟨argE args, hOf []⟩ (PostF pg.prog ad [.tmp 4] r [])) : PCall pg 146 args r := pcall_inF ad hc fol 146 n146 hb rfl e146 rfl (bodyOk_at o146 hb rfl) ha hr h
theorem n176 : Tryz.prog.funcs[176]? = some Tryz.f176 := by kernel_rfl
theorem e176 : entB Tryz.prog 176 = true := by kernel_rfl
theorem o176 : bodyOk (anL []) Tryz.f176 = true := by kernel_rfl
theorem w176 {ct : Ct} (ow : Nat → Bool) (ad : List Adj) {code : Code} (hb : Tryz.f176.body = some code) (hc : CtOk pg ct) {args : List V} {r : V} (ha : Nat.ble args.length 26 = true) (hr : r.noId = true) (h : exec ⟨pg, ct, ow, 26, anL []⟩ code ⟨argE args, hOf []⟩ (PostF pg.prog ad [.tmp 4] r [])) : PCall pg 176 args r := pcall_inF ad hc fol 176 n176 hb rfl e176 rfl (bodyOk_at o176 hb rfl) ha hr h
end Go.Abs
