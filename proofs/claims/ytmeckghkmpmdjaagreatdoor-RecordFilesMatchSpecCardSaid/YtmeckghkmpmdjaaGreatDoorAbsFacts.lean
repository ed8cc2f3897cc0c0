import Derived.Test.YtmeckghkmpmdjaaGreatDoorAbsK2
import Derived.Test.YtmeckghkmpmdjaaGreatDoorRows
import Derived.Lib.TrailingZeros
import Derived.Lib.ItoaNum
/- facts of this seat's program: its types and functions, by their numbers -/
namespace Go.Abs
open Go Go.Proofs
set_option maxRecDepth 100000
def tabs (w : World) : Prop := Lib.TabIs Tryz.prog w "internal/strconv.uint64pow10" .u64 Lib.pow10Tab ∧ Lib.TabIs Tryz.prog w "math/bits.deBruijn64tab" .u8 (Lib.deBruijn64tab.map fun (n : Nat) => (n : Int))
noncomputable def pg : PG := mkPG Tryz.prog 8 fun w => tabs w ∧ w.ShapedOpen Tryz.prog
theorem tabPow {w : World} (h : pg.ok w) : Lib.TabIs Tryz.prog w "internal/strconv.uint64pow10" .u64 Lib.pow10Tab := by
  obtain ⟨w0, ⟨h1, _⟩, h2⟩ := h
  exact tabIs_same (g := 1) (by kernel_rfl) (by decide) h2 h1.1
theorem tabDb64 {w : World} (h : pg.ok w) : Lib.TabIs Tryz.prog w "math/bits.deBruijn64tab" .u8 (Lib.deBruijn64tab.map fun (n : Nat) => (n : Int)) := by
  obtain ⟨w0, ⟨h1, _⟩, h2⟩ := h
  exact tabIs_same (g := 7) (by kernel_rfl) (by decide) h2 h1.2
theorem tabs_of {w : World} (l : List (String × DataW Unit)) (m0 : ("internal/strconv.uint64pow10", Lib.tabData .u64 Lib.pow10Tab) ∈ l) (m1 : ("math/bits.deBruijn64tab", Lib.tabData .u8 (Lib.deBruijn64tab.map fun (n : Nat) => (n : Int))) ∈ l) (h : laidMet Tryz.prog l w) : tabs w := ⟨laidMet_cells (g := 1) (t := 196) (e := 121) (n := 20) (by kernel_rfl) (by kernel_rfl) (by kernel_rfl) (by kernel_rfl) (by kernel_rfl) (by kernel_rfl) l m0 h, laidMet_cells (g := 7) (t := 223) (e := 5) (n := 64) (by kernel_rfl) (by kernel_rfl) (by kernel_rfl) (by kernel_rfl) (by kernel_rfl) (by kernel_rfl) l m1 h⟩

@[push_cast] theorem pg_prog : pg.prog = Tryz.prog := rfl
theorem fol : Tryz.prog.follows .mixedOrders = true := by kernel_rfl
@[push_cast] theorem t1 : ti Tryz.prog 1 = ⟨.func, 1, 8, some (.con .nilFunc)⟩ := by kernel_rfl
@[push_cast] theorem t2 : ti Tryz.prog 2 = ⟨(.int .i64), 1, 8, some (.int .i64 0)⟩ := by kernel_rfl
@[push_cast] theorem t3 : ti Tryz.prog 3 = ⟨(.int .i64), 1, 8, some (.int .i64 0)⟩ := by kernel_rfl
@[push_cast] theorem t4 : ti Tryz.prog 4 = ⟨.bool, 1, 1, some (.bool false)⟩ := by kernel_rfl
@[push_cast] theorem t5 : ti Tryz.prog 5 = ⟨(.int .u8), 1, 1, some (.int .u8 0)⟩ := by kernel_rfl
@[push_cast] theorem t6 : ti Tryz.prog 6 = ⟨(.int .u8), 1, 1, some (.int .u8 0)⟩ := by kernel_rfl
@[push_cast] theorem eq7 : EqOk Tryz.prog 7 = True := eq_true (eqOk_of (by kernel_rfl))
@[push_cast] theorem t7 : ti Tryz.prog 7 = ⟨(.struct [(0, 2), (1, 3), (2, 4), (3, 6)]), 4, 24, some (.agg [(.int .i64 0), (.int .i64 0), (.bool false), (.int .u8 0)])⟩ := by kernel_rfl
@[push_cast] theorem eq8 : EqOk Tryz.prog 8 = True := eq_true (eqOk_of (by kernel_rfl))
@[push_cast] theorem t8 : ti Tryz.prog 8 = ⟨(.struct [(0, 2), (1, 3), (2, 4), (3, 6)]), 4, 24, some (.agg [(.int .i64 0), (.int .i64 0), (.bool false), (.int .u8 0)])⟩ := by kernel_rfl
@[push_cast] theorem t9 : ti Tryz.prog 9 = ⟨.str, 1, 16, some (.str [])⟩ := by kernel_rfl
@[push_cast] theorem t10 : ti Tryz.prog 10 = ⟨.str, 1, 16, some (.str [])⟩ := by kernel_rfl
@[push_cast] theorem t11 : ti Tryz.prog 11 = ⟨.str, 1, 16, some (.str [])⟩ := by kernel_rfl
@[push_cast] theorem t12 : ti Tryz.prog 12 = ⟨(.int .u64), 1, 8, some (.int .u64 0)⟩ := by kernel_rfl
@[push_cast] theorem t13 : ti Tryz.prog 13 = ⟨(.struct [(0, 9), (1, 12)]), 2, 24, some (.agg [(.str []), (.int .u64 0)])⟩ := by kernel_rfl
@[push_cast] theorem t14 : ti Tryz.prog 14 = ⟨(.struct [(0, 9), (1, 12)]), 2, 24, some (.agg [(.str []), (.int .u64 0)])⟩ := by kernel_rfl
@[push_cast] theorem t15 : ti Tryz.prog 15 = ⟨(.ptr 226), 1, 8, some (.con (.pointer none))⟩ := by kernel_rfl
@[push_cast] theorem t16 : ti Tryz.prog 16 = ⟨(.ptr 229), 1, 8, some (.con (.pointer none))⟩ := by kernel_rfl
@[push_cast] theorem t17 : ti Tryz.prog 17 = ⟨(.ptr 236), 1, 8, some (.con (.pointer none))⟩ := by kernel_rfl
@[push_cast] theorem t18 : ti Tryz.prog 18 = ⟨(.struct [(0, 17)]), 1, 8, some (.agg [(.con (.pointer none))])⟩ := by kernel_rfl
@[push_cast] theorem t19 : ti Tryz.prog 19 = ⟨(.struct [(0, 17)]), 1, 8, some (.agg [(.con (.pointer none))])⟩ := by kernel_rfl
@[push_cast] theorem t20 : ti Tryz.prog 20 = ⟨.iface, 1, 16, some (.con .nilIface)⟩ := by kernel_rfl
@[push_cast] theorem t21 : ti Tryz.prog 21 = ⟨(.int .i32), 1, 4, some (.int .i32 0)⟩ := by kernel_rfl
@[push_cast] theorem t22 : ti Tryz.prog 22 = ⟨(.slice 42), 1, 24, some .nilsl⟩ := by kernel_rfl
@[push_cast] theorem t23 : ti Tryz.prog 23 = ⟨(.slice 5), 1, 24, some .nilsl⟩ := by kernel_rfl
@[push_cast] theorem t24 : ti Tryz.prog 24 = ⟨(.int .i64), 1, 8, some (.int .i64 0)⟩ := by kernel_rfl
@[push_cast] theorem t26 : ti Tryz.prog 26 = ⟨.func, 1, 8, some (.con .nilFunc)⟩ := by kernel_rfl
@[push_cast] theorem t27 : ti Tryz.prog 27 = ⟨.func, 1, 8, some (.con .nilFunc)⟩ := by kernel_rfl
@[push_cast] theorem t28 : ti Tryz.prog 28 = ⟨.func, 1, 8, some (.con .nilFunc)⟩ := by kernel_rfl
@[push_cast] theorem t29 : ti Tryz.prog 29 = ⟨.func, 1, 8, some (.con .nilFunc)⟩ := by kernel_rfl
@[push_cast] theorem t30 : ti Tryz.prog 30 = ⟨.func, 1, 8, some (.con .nilFunc)⟩ := by kernel_rfl
@[push_cast] theorem t31 : ti Tryz.prog 31 = ⟨(.slice 9), 1, 24, some .nilsl⟩ := by kernel_rfl
@[push_cast] theorem t32 : ti Tryz.prog 32 = ⟨(.slice 22), 1, 24, some .nilsl⟩ := by kernel_rfl
@[push_cast] theorem t34 : ti Tryz.prog 34 = ⟨.func, 1, 8, some (.con .nilFunc)⟩ := by kernel_rfl
@[push_cast] theorem t36 : ti Tryz.prog 36 = ⟨.func, 1, 8, some (.con .nilFunc)⟩ := by kernel_rfl
@[push_cast] theorem t37 : ti Tryz.prog 37 = ⟨.func, 1, 8, some (.con .nilFunc)⟩ := by kernel_rfl
@[push_cast] theorem t38 : ti Tryz.prog 38 = ⟨.func, 1, 8, some (.con .nilFunc)⟩ := by kernel_rfl
@[push_cast] theorem t39 : ti Tryz.prog 39 = ⟨.func, 1, 8, some (.con .nilFunc)⟩ := by kernel_rfl
@[push_cast] theorem t40 : ti Tryz.prog 40 = ⟨(.slice 91), 1, 24, some .nilsl⟩ := by kernel_rfl
@[push_cast] theorem t41 : ti Tryz.prog 41 = ⟨(.struct [(0, 3), (1, 9), (2, 9), (3, 3), (4, 9), (5, 40), (6, 23)]), 7, 112, some (.agg [(.int .i64 0), (.str []), (.str []), (.int .i64 0), (.str []), .nilsl, .nilsl])⟩ := by kernel_rfl
@[push_cast] theorem t42 : ti Tryz.prog 42 = ⟨(.struct [(0, 3), (1, 9), (2, 9), (3, 3), (4, 9), (5, 40), (6, 23)]), 7, 112, some (.agg [(.int .i64 0), (.str []), (.str []), (.int .i64 0), (.str []), .nilsl, .nilsl])⟩ := by kernel_rfl
@[push_cast] theorem t43 : ti Tryz.prog 43 = ⟨.func, 1, 8, some (.con .nilFunc)⟩ := by kernel_rfl
@[push_cast] theorem t44 : ti Tryz.prog 44 = ⟨.func, 1, 8, some (.con .nilFunc)⟩ := by kernel_rfl
@[push_cast] theorem t46 : ti Tryz.prog 46 = ⟨.func, 1, 8, some (.con .nilFunc)⟩ := by kernel_rfl
@[push_cast] theorem t47 : ti Tryz.prog 47 = ⟨.func, 1, 8, some (.con .nilFunc)⟩ := by kernel_rfl
@[push_cast] theorem t48 : ti Tryz.prog 48 = ⟨.func, 1, 8, some (.con .nilFunc)⟩ := by kernel_rfl
@[push_cast] theorem t50 : ti Tryz.prog 50 = ⟨.func, 1, 8, some (.con .nilFunc)⟩ := by kernel_rfl
@[push_cast] theorem t51 : ti Tryz.prog 51 = ⟨.func, 1, 8, some (.con .nilFunc)⟩ := by kernel_rfl
@[push_cast] theorem t52 : ti Tryz.prog 52 = ⟨(.slice 58), 1, 24, some .nilsl⟩ := by kernel_rfl
@[push_cast] theorem t54 : ti Tryz.prog 54 = ⟨.func, 1, 8, some (.con .nilFunc)⟩ := by kernel_rfl
@[push_cast] theorem eq55 : EqOk Tryz.prog 55 = True := eq_true (eqOk_of (by kernel_rfl))
@[push_cast] theorem t55 : ti Tryz.prog 55 = ⟨(.struct [(0, 3), (1, 3)]), 2, 16, some (.agg [(.int .i64 0), (.int .i64 0)])⟩ := by kernel_rfl
@[push_cast] theorem eq56 : EqOk Tryz.prog 56 = True := eq_true (eqOk_of (by kernel_rfl))
@[push_cast] theorem t56 : ti Tryz.prog 56 = ⟨(.struct [(0, 3), (1, 3)]), 2, 16, some (.agg [(.int .i64 0), (.int .i64 0)])⟩ := by kernel_rfl
@[push_cast] theorem t57 : ti Tryz.prog 57 = ⟨(.struct [(0, 9), (1, 56)]), 3, 32, some (.agg [(.str []), (.int .i64 0), (.int .i64 0)])⟩ := by kernel_rfl
@[push_cast] theorem t58 : ti Tryz.prog 58 = ⟨(.struct [(0, 9), (1, 56)]), 3, 32, some (.agg [(.str []), (.int .i64 0), (.int .i64 0)])⟩ := by kernel_rfl
@[push_cast] theorem t59 : ti Tryz.prog 59 = ⟨.func, 1, 8, some (.con .nilFunc)⟩ := by kernel_rfl
@[push_cast] theorem t60 : ti Tryz.prog 60 = ⟨(.slice 65), 1, 24, some .nilsl⟩ := by kernel_rfl
@[push_cast] theorem t62 : ti Tryz.prog 62 = ⟨.func, 1, 8, some (.con .nilFunc)⟩ := by kernel_rfl
@[push_cast] theorem t63 : ti Tryz.prog 63 = ⟨.func, 1, 8, some (.con .nilFunc)⟩ := by kernel_rfl
@[push_cast] theorem t64 : ti Tryz.prog 64 = ⟨(.struct [(0, 56)]), 2, 16, some (.agg [(.int .i64 0), (.int .i64 0)])⟩ := by kernel_rfl
@[push_cast] theorem t65 : ti Tryz.prog 65 = ⟨(.struct [(0, 56)]), 2, 16, some (.agg [(.int .i64 0), (.int .i64 0)])⟩ := by kernel_rfl
@[push_cast] theorem t66 : ti Tryz.prog 66 = ⟨.func, 1, 8, some (.con .nilFunc)⟩ := by kernel_rfl
@[push_cast] theorem t67 : ti Tryz.prog 67 = ⟨.func, 1, 8, some (.con .nilFunc)⟩ := by kernel_rfl
@[push_cast] theorem t68 : ti Tryz.prog 68 = ⟨.func, 1, 8, some (.con .nilFunc)⟩ := by kernel_rfl
@[push_cast] theorem t69 : ti Tryz.prog 69 = ⟨.func, 1, 8, some (.con .nilFunc)⟩ := by kernel_rfl
@[push_cast] theorem t70 : ti Tryz.prog 70 = ⟨.func, 1, 8, some (.con .nilFunc)⟩ := by kernel_rfl
@[push_cast] theorem t71 : ti Tryz.prog 71 = ⟨.func, 1, 8, some (.con .nilFunc)⟩ := by kernel_rfl
@[push_cast] theorem t72 : ti Tryz.prog 72 = ⟨.func, 1, 8, some (.con .nilFunc)⟩ := by kernel_rfl
@[push_cast] theorem t73 : ti Tryz.prog 73 = ⟨.func, 1, 8, some (.con .nilFunc)⟩ := by kernel_rfl
@[push_cast] theorem t74 : ti Tryz.prog 74 = ⟨(.map 9 4), 1, 8, some (.con (.map none))⟩ := by kernel_rfl
@[push_cast] theorem t75 : ti Tryz.prog 75 = ⟨.func, 1, 8, some (.con .nilFunc)⟩ := by kernel_rfl
@[push_cast] theorem t76 : ti Tryz.prog 76 = ⟨.func, 1, 8, some (.con .nilFunc)⟩ := by kernel_rfl
@[push_cast] theorem t78 : ti Tryz.prog 78 = ⟨.func, 1, 8, some (.con .nilFunc)⟩ := by kernel_rfl
@[push_cast] theorem t79 : ti Tryz.prog 79 = ⟨.func, 1, 8, some (.con .nilFunc)⟩ := by kernel_rfl
@[push_cast] theorem t80 : ti Tryz.prog 80 = ⟨.func, 1, 8, some (.con .nilFunc)⟩ := by kernel_rfl
@[push_cast] theorem t81 : ti Tryz.prog 81 = ⟨.func, 1, 8, some (.con .nilFunc)⟩ := by kernel_rfl
@[push_cast] theorem t83 : ti Tryz.prog 83 = ⟨.func, 1, 8, some (.con .nilFunc)⟩ := by kernel_rfl
@[push_cast] theorem t84 : ti Tryz.prog 84 = ⟨.func, 1, 8, some (.con .nilFunc)⟩ := by kernel_rfl
@[push_cast] theorem t85 : ti Tryz.prog 85 = ⟨.func, 1, 8, some (.con .nilFunc)⟩ := by kernel_rfl
@[push_cast] theorem t86 : ti Tryz.prog 86 = ⟨(.slice 4), 1, 24, some .nilsl⟩ := by kernel_rfl
@[push_cast] theorem t87 : ti Tryz.prog 87 = ⟨(.slice 23), 1, 24, some .nilsl⟩ := by kernel_rfl
@[push_cast] theorem t88 : ti Tryz.prog 88 = ⟨.func, 1, 8, some (.con .nilFunc)⟩ := by kernel_rfl
@[push_cast] theorem t89 : ti Tryz.prog 89 = ⟨.func, 1, 8, some (.con .nilFunc)⟩ := by kernel_rfl
@[push_cast] theorem eq90 : EqOk Tryz.prog 90 = True := eq_true (eqOk_of (by kernel_rfl))
@[push_cast] theorem t90 : ti Tryz.prog 90 = ⟨(.struct [(0, 9), (1, 9)]), 2, 32, some (.agg [(.str []), (.str [])])⟩ := by kernel_rfl
@[push_cast] theorem eq91 : EqOk Tryz.prog 91 = True := eq_true (eqOk_of (by kernel_rfl))
@[push_cast] theorem t91 : ti Tryz.prog 91 = ⟨(.struct [(0, 9), (1, 9)]), 2, 32, some (.agg [(.str []), (.str [])])⟩ := by kernel_rfl
@[push_cast] theorem t93 : ti Tryz.prog 93 = ⟨.func, 1, 8, some (.con .nilFunc)⟩ := by kernel_rfl
@[push_cast] theorem t94 : ti Tryz.prog 94 = ⟨.func, 1, 8, some (.con .nilFunc)⟩ := by kernel_rfl
@[push_cast] theorem t95 : ti Tryz.prog 95 = ⟨.func, 1, 8, some (.con .nilFunc)⟩ := by kernel_rfl
@[push_cast] theorem t96 : ti Tryz.prog 96 = ⟨.func, 1, 8, some (.con .nilFunc)⟩ := by kernel_rfl
@[push_cast] theorem t97 : ti Tryz.prog 97 = ⟨.func, 1, 8, some (.con .nilFunc)⟩ := by kernel_rfl
@[push_cast] theorem t98 : ti Tryz.prog 98 = ⟨.func, 1, 8, some (.con .nilFunc)⟩ := by kernel_rfl
@[push_cast] theorem t99 : ti Tryz.prog 99 = ⟨.func, 1, 8, some (.con .nilFunc)⟩ := by kernel_rfl
@[push_cast] theorem t100 : ti Tryz.prog 100 = ⟨.func, 1, 8, some (.con .nilFunc)⟩ := by kernel_rfl
@[push_cast] theorem t101 : ti Tryz.prog 101 = ⟨.func, 1, 8, some (.con .nilFunc)⟩ := by kernel_rfl
@[push_cast] theorem t102 : ti Tryz.prog 102 = ⟨.func, 1, 8, some (.con .nilFunc)⟩ := by kernel_rfl
@[push_cast] theorem t103 : ti Tryz.prog 103 = ⟨.func, 1, 8, some (.con .nilFunc)⟩ := by kernel_rfl
@[push_cast] theorem t104 : ti Tryz.prog 104 = ⟨.func, 1, 8, some (.con .nilFunc)⟩ := by kernel_rfl
@[push_cast] theorem t105 : ti Tryz.prog 105 = ⟨.func, 1, 8, some (.con .nilFunc)⟩ := by kernel_rfl
@[push_cast] theorem t106 : ti Tryz.prog 106 = ⟨.func, 1, 8, some (.con .nilFunc)⟩ := by kernel_rfl
@[push_cast] theorem t107 : ti Tryz.prog 107 = ⟨.func, 1, 8, some (.con .nilFunc)⟩ := by kernel_rfl
@[push_cast] theorem t108 : ti Tryz.prog 108 = ⟨.func, 1, 8, some (.con .nilFunc)⟩ := by kernel_rfl
@[push_cast] theorem t109 : ti Tryz.prog 109 = ⟨(.ptr 111), 1, 8, some (.con (.pointer none))⟩ := by kernel_rfl
@[push_cast] theorem t110 : ti Tryz.prog 110 = ⟨(.struct [(0, 23), (1, 3), (2, 42), (9, 3), (10, 9)]), 11, 168, some (.agg [.nilsl, (.int .i64 0), (.int .i64 0), (.str []), (.str []), (.int .i64 0), (.str []), .nilsl, .nilsl, (.int .i64 0), (.str [])])⟩ := by kernel_rfl
@[push_cast] theorem t111 : ti Tryz.prog 111 = ⟨(.struct [(0, 23), (1, 3), (2, 42), (9, 3), (10, 9)]), 11, 168, some (.agg [.nilsl, (.int .i64 0), (.int .i64 0), (.str []), (.str []), (.int .i64 0), (.str []), .nilsl, .nilsl, (.int .i64 0), (.str [])])⟩ := by kernel_rfl
@[push_cast] theorem t112 : ti Tryz.prog 112 = ⟨(.ptr 114), 1, 8, some (.con (.pointer none))⟩ := by kernel_rfl
@[push_cast] theorem t113 : ti Tryz.prog 113 = ⟨(.struct [(0, 23), (1, 3), (2, 3)]), 3, 40, some (.agg [.nilsl, (.int .i64 0), (.int .i64 0)])⟩ := by kernel_rfl
@[push_cast] theorem t114 : ti Tryz.prog 114 = ⟨(.struct [(0, 23), (1, 3), (2, 3)]), 3, 40, some (.agg [.nilsl, (.int .i64 0), (.int .i64 0)])⟩ := by kernel_rfl
@[push_cast] theorem t116 : ti Tryz.prog 116 = ⟨.func, 1, 8, some (.con .nilFunc)⟩ := by kernel_rfl
@[push_cast] theorem t117 : ti Tryz.prog 117 = ⟨.func, 1, 8, some (.con .nilFunc)⟩ := by kernel_rfl
@[push_cast] theorem t118 : ti Tryz.prog 118 = ⟨.func, 1, 8, some (.con .nilFunc)⟩ := by kernel_rfl
@[push_cast] theorem t119 : ti Tryz.prog 119 = ⟨(.int .u64), 1, 8, some (.int .u64 0)⟩ := by kernel_rfl
@[push_cast] theorem t120 : ti Tryz.prog 120 = ⟨.func, 1, 8, some (.con .nilFunc)⟩ := by kernel_rfl
@[push_cast] theorem t121 : ti Tryz.prog 121 = ⟨(.int .u64), 1, 8, some (.int .u64 0)⟩ := by kernel_rfl
@[push_cast] theorem t122 : ti Tryz.prog 122 = ⟨.func, 1, 8, some (.con .nilFunc)⟩ := by kernel_rfl
@[push_cast] theorem t123 : ti Tryz.prog 123 = ⟨.func, 1, 8, some (.con .nilFunc)⟩ := by kernel_rfl
@[push_cast] theorem t124 : ti Tryz.prog 124 = ⟨.func, 1, 8, some (.con .nilFunc)⟩ := by kernel_rfl
@[push_cast] theorem t125 : ti Tryz.prog 125 = ⟨.func, 1, 8, some (.con .nilFunc)⟩ := by kernel_rfl
@[push_cast] theorem t126 : ti Tryz.prog 126 = ⟨(.arr 256 4), 256, 256, some (.agg [(.bool false), (.bool false), (.bool false), (.bool false), (.bool false), (.bool false), (.bool false), (.bool false), (.bool false), (.bool false), (.bool false), (.bool false), (.bool false), (.bool false), (.bool false), (.bool false), (.bool false), (.bool false), (.bool false), (.bool false), (.bool false), (.bool false), (.bool false), (.bool false), (.bool false), (.bool false), (.bool false), (.bool false), (.bool false), (.bool false), (.bool false), (.bool false), (.bool false), (.bool false), (.bool false), (.bool false), (.bool false), (.bool false), (.bool false), (.bool false), (.bool false), (.bool false), (.bool false), (.bool false), (.bool false), (.bool false), (.bool false), (.bool false), (.bool false), (.bool false), (.bool false), (.bool false), (.bool false), (.bool false), (.bool false), (.bool false), (.bool false), (.bool false), (.bool false), (.bool false), (.bool false), (.bool false), (.bool false), (.bool false), (.bool false), (.bool false), (.bool false), (.bool false), (.bool false), (.bool false), (.bool false), (.bool false), (.bool false), (.bool false), (.bool false), (.bool false), (.bool false), (.bool false), (.bool false), (.bool false), (.bool false), (.bool false), (.bool false), (.bool false), (.bool false), (.bool false), (.bool false), (.bool false), (.bool false), (.bool false), (.bool false), (.bool false), (.bool false), (.bool false), (.bool false), (.bool false), (.bool false), (.bool false), (.bool false), (.bool false), (.bool false), (.bool false), (.bool false), (.bool false), (.bool false), (.bool false), (.bool false), (.bool false), (.bool false), (.bool false), (.bool false), (.bool false), (.bool false), (.bool false), (.bool false), (.bool false), (.bool false), (.bool false), (.bool false), (.bool false), (.bool false), (.bool false), (.bool false), (.bool false), (.bool false), (.bool false), (.bool false), (.bool false), (.bool false), (.bool false), (.bool false), (.bool false), (.bool false), (.bool false), (.bool false), (.bool false), (.bool false), (.bool false), (.bool false), (.bool false), (.bool false), (.bool false), (.bool false), (.bool false), (.bool false), (.bool false), (.bool false), (.bool false), (.bool false), (.bool false), (.bool false), (.bool false), (.bool false), (.bool false), (.bool false), (.bool false), (.bool false), (.bool false), (.bool false), (.bool false), (.bool false), (.bool false), (.bool false), (.bool false), (.bool false), (.bool false), (.bool false), (.bool false), (.bool false), (.bool false), (.bool false), (.bool false), (.bool false), (.bool false), (.bool false), (.bool false), (.bool false), (.bool false), (.bool false), (.bool false), (.bool false), (.bool false), (.bool false), (.bool false), (.bool false), (.bool false), (.bool false), (.bool false), (.bool false), (.bool false), (.bool false), (.bool false), (.bool false), (.bool false), (.bool false), (.bool false), (.bool false), (.bool false), (.bool false), (.bool false), (.bool false), (.bool false), (.bool false), (.bool false), (.bool false), (.bool false), (.bool false), (.bool false), (.bool false), (.bool false), (.bool false), (.bool false), (.bool false), (.bool false), (.bool false), (.bool false), (.bool false), (.bool false), (.bool false), (.bool false), (.bool false), (.bool false), (.bool false), (.bool false), (.bool false), (.bool false), (.bool false), (.bool false), (.bool false), (.bool false), (.bool false), (.bool false), (.bool false), (.bool false), (.bool false), (.bool false), (.bool false), (.bool false), (.bool false), (.bool false), (.bool false), (.bool false), (.bool false), (.bool false), (.bool false), (.bool false), (.bool false), (.bool false), (.bool false), (.bool false), (.bool false), (.bool false), (.bool false), (.bool false), (.bool false), (.bool false)])⟩ := by kernel_rfl
@[push_cast] theorem t127 : ti Tryz.prog 127 = ⟨(.arr 256 4), 256, 256, some (.agg [(.bool false), (.bool false), (.bool false), (.bool false), (.bool false), (.bool false), (.bool false), (.bool false), (.bool false), (.bool false), (.bool false), (.bool false), (.bool false), (.bool false), (.bool false), (.bool false), (.bool false), (.bool false), (.bool false), (.bool false), (.bool false), (.bool false), (.bool false), (.bool false), (.bool false), (.bool false), (.bool false), (.bool false), (.bool false), (.bool false), (.bool false), (.bool false), (.bool false), (.bool false), (.bool false), (.bool false), (.bool false), (.bool false), (.bool false), (.bool false), (.bool false), (.bool false), (.bool false), (.bool false), (.bool false), (.bool false), (.bool false), (.bool false), (.bool false), (.bool false), (.bool false), (.bool false), (.bool false), (.bool false), (.bool false), (.bool false), (.bool false), (.bool false), (.bool false), (.bool false), (.bool false), (.bool false), (.bool false), (.bool false), (.bool false), (.bool false), (.bool false), (.bool false), (.bool false), (.bool false), (.bool false), (.bool false), (.bool false), (.bool false), (.bool false), (.bool false), (.bool false), (.bool false), (.bool false), (.bool false), (.bool false), (.bool false), (.bool false), (.bool false), (.bool false), (.bool false), (.bool false), (.bool false), (.bool false), (.bool false), (.bool false), (.bool false), (.bool false), (.bool false), (.bool false), (.bool false), (.bool false), (.bool false), (.bool false), (.bool false), (.bool false), (.bool false), (.bool false), (.bool false), (.bool false), (.bool false), (.bool false), (.bool false), (.bool false), (.bool false), (.bool false), (.bool false), (.bool false), (.bool false), (.bool false), (.bool false), (.bool false), (.bool false), (.bool false), (.bool false), (.bool false), (.bool false), (.bool false), (.bool false), (.bool false), (.bool false), (.bool false), (.bool false), (.bool false), (.bool false), (.bool false), (.bool false), (.bool false), (.bool false), (.bool false), (.bool false), (.bool false), (.bool false), (.bool false), (.bool false), (.bool false), (.bool false), (.bool false), (.bool false), (.bool false), (.bool false), (.bool false), (.bool false), (.bool false), (.bool false), (.bool false), (.bool false), (.bool false), (.bool false), (.bool false), (.bool false), (.bool false), (.bool false), (.bool false), (.bool false), (.bool false), (.bool false), (.bool false), (.bool false), (.bool false), (.bool false), (.bool false), (.bool false), (.bool false), (.bool false), (.bool false), (.bool false), (.bool false), (.bool false), (.bool false), (.bool false), (.bool false), (.bool false), (.bool false), (.bool false), (.bool false), (.bool false), (.bool false), (.bool false), (.bool false), (.bool false), (.bool false), (.bool false), (.bool false), (.bool false), (.bool false), (.bool false), (.bool false), (.bool false), (.bool false), (.bool false), (.bool false), (.bool false), (.bool false), (.bool false), (.bool false), (.bool false), (.bool false), (.bool false), (.bool false), (.bool false), (.bool false), (.bool false), (.bool false), (.bool false), (.bool false), (.bool false), (.bool false), (.bool false), (.bool false), (.bool false), (.bool false), (.bool false), (.bool false), (.bool false), (.bool false), (.bool false), (.bool false), (.bool false), (.bool false), (.bool false), (.bool false), (.bool false), (.bool false), (.bool false), (.bool false), (.bool false), (.bool false), (.bool false), (.bool false), (.bool false), (.bool false), (.bool false), (.bool false), (.bool false), (.bool false), (.bool false), (.bool false), (.bool false), (.bool false), (.bool false), (.bool false), (.bool false), (.bool false), (.bool false), (.bool false), (.bool false), (.bool false), (.bool false), (.bool false), (.bool false)])⟩ := by kernel_rfl
@[push_cast] theorem t129 : ti Tryz.prog 129 = ⟨.func, 1, 8, some (.con .nilFunc)⟩ := by kernel_rfl
@[push_cast] theorem t130 : ti Tryz.prog 130 = ⟨.func, 1, 8, some (.con .nilFunc)⟩ := by kernel_rfl
@[push_cast] theorem t131 : ti Tryz.prog 131 = ⟨(.ptr 127), 1, 8, some (.con (.pointer none))⟩ := by kernel_rfl
@[push_cast] theorem t132 : ti Tryz.prog 132 = ⟨(.ptr 9), 1, 8, some (.con (.pointer none))⟩ := by kernel_rfl
@[push_cast] theorem t133 : ti Tryz.prog 133 = ⟨.func, 1, 8, some (.con .nilFunc)⟩ := by kernel_rfl
@[push_cast] theorem t134 : ti Tryz.prog 134 = ⟨.func, 1, 8, some (.con .nilFunc)⟩ := by kernel_rfl
@[push_cast] theorem t136 : ti Tryz.prog 136 = ⟨.func, 1, 8, some (.con .nilFunc)⟩ := by kernel_rfl
@[push_cast] theorem t137 : ti Tryz.prog 137 = ⟨.func, 1, 8, some (.con .nilFunc)⟩ := by kernel_rfl
@[push_cast] theorem t138 : ti Tryz.prog 138 = ⟨.iface, 1, 16, some (.con .nilIface)⟩ := by kernel_rfl
@[push_cast] theorem t139 : ti Tryz.prog 139 = ⟨.iface, 1, 16, some (.con .nilIface)⟩ := by kernel_rfl
@[push_cast] theorem t141 : ti Tryz.prog 141 = ⟨.func, 1, 8, some (.con .nilFunc)⟩ := by kernel_rfl
@[push_cast] theorem t142 : ti Tryz.prog 142 = ⟨.func, 1, 8, some (.con .nilFunc)⟩ := by kernel_rfl
@[push_cast] theorem t143 : ti Tryz.prog 143 = ⟨.func, 1, 8, some (.con .nilFunc)⟩ := by kernel_rfl
@[push_cast] theorem t144 : ti Tryz.prog 144 = ⟨.func, 1, 8, some (.con .nilFunc)⟩ := by kernel_rfl
@[push_cast] theorem t146 : ti Tryz.prog 146 = ⟨.func, 1, 8, some (.con .nilFunc)⟩ := by kernel_rfl
@[push_cast] theorem t148 : ti Tryz.prog 148 = ⟨.func, 1, 8, some (.con .nilFunc)⟩ := by kernel_rfl
@[push_cast] theorem t149 : ti Tryz.prog 149 = ⟨(.int .u32), 1, 4, some (.int .u32 0)⟩ := by kernel_rfl
@[push_cast] theorem t151 : ti Tryz.prog 151 = ⟨.func, 1, 8, some (.con .nilFunc)⟩ := by kernel_rfl
@[push_cast] theorem eq152 : EqOk Tryz.prog 152 = True := eq_true (eqOk_of (by kernel_rfl))
@[push_cast] theorem t152 : ti Tryz.prog 152 = ⟨(.struct [(0, 3), (1, 3), (2, 3), (3, 3), (4, 3), (5, 3)]), 6, 48, some (.agg [(.int .i64 0), (.int .i64 0), (.int .i64 0), (.int .i64 0), (.int .i64 0), (.int .i64 0)])⟩ := by kernel_rfl
@[push_cast] theorem eq153 : EqOk Tryz.prog 153 = True := eq_true (eqOk_of (by kernel_rfl))
@[push_cast] theorem t153 : ti Tryz.prog 153 = ⟨(.struct [(0, 3), (1, 3), (2, 3), (3, 3), (4, 3), (5, 3)]), 6, 48, some (.agg [(.int .i64 0), (.int .i64 0), (.int .i64 0), (.int .i64 0), (.int .i64 0), (.int .i64 0)])⟩ := by kernel_rfl
@[push_cast] theorem t154 : ti Tryz.prog 154 = ⟨.func, 1, 8, some (.con .nilFunc)⟩ := by kernel_rfl
@[push_cast] theorem t155 : ti Tryz.prog 155 = ⟨.func, 1, 8, some (.con .nilFunc)⟩ := by kernel_rfl
@[push_cast] theorem t156 : ti Tryz.prog 156 = ⟨.func, 1, 8, some (.con .nilFunc)⟩ := by kernel_rfl
@[push_cast] theorem t157 : ti Tryz.prog 157 = ⟨(.slice 3), 1, 24, some .nilsl⟩ := by kernel_rfl
@[push_cast] theorem t158 : ti Tryz.prog 158 = ⟨.func, 1, 8, some (.con .nilFunc)⟩ := by kernel_rfl
@[push_cast] theorem t159 : ti Tryz.prog 159 = ⟨.func, 1, 8, some (.con .nilFunc)⟩ := by kernel_rfl
@[push_cast] theorem t161 : ti Tryz.prog 161 = ⟨.func, 1, 8, some (.con .nilFunc)⟩ := by kernel_rfl
@[push_cast] theorem t162 : ti Tryz.prog 162 = ⟨.func, 1, 8, some (.con .nilFunc)⟩ := by kernel_rfl
@[push_cast] theorem t164 : ti Tryz.prog 164 = ⟨.func, 1, 8, some (.con .nilFunc)⟩ := by kernel_rfl
@[push_cast] theorem t165 : ti Tryz.prog 165 = ⟨.func, 1, 8, some (.con .nilFunc)⟩ := by kernel_rfl
@[push_cast] theorem t166 : ti Tryz.prog 166 = ⟨.func, 1, 8, some (.con .nilFunc)⟩ := by kernel_rfl
@[push_cast] theorem t168 : ti Tryz.prog 168 = ⟨.func, 1, 8, some (.con .nilFunc)⟩ := by kernel_rfl
@[push_cast] theorem t169 : ti Tryz.prog 169 = ⟨.func, 1, 8, some (.con .nilFunc)⟩ := by kernel_rfl
@[push_cast] theorem t170 : ti Tryz.prog 170 = ⟨(.arr 5 3), 5, 40, some (.agg [(.int .i64 0), (.int .i64 0), (.int .i64 0), (.int .i64 0), (.int .i64 0)])⟩ := by kernel_rfl
@[push_cast] theorem t171 : ti Tryz.prog 171 = ⟨.func, 1, 8, some (.con .nilFunc)⟩ := by kernel_rfl
@[push_cast] theorem t173 : ti Tryz.prog 173 = ⟨.func, 1, 8, some (.con .nilFunc)⟩ := by kernel_rfl
@[push_cast] theorem t174 : ti Tryz.prog 174 = ⟨.func, 1, 8, some (.con .nilFunc)⟩ := by kernel_rfl
@[push_cast] theorem t175 : ti Tryz.prog 175 = ⟨(.arr 24 5), 24, 24, some (.agg [(.int .u8 0), (.int .u8 0), (.int .u8 0), (.int .u8 0), (.int .u8 0), (.int .u8 0), (.int .u8 0), (.int .u8 0), (.int .u8 0), (.int .u8 0), (.int .u8 0), (.int .u8 0), (.int .u8 0), (.int .u8 0), (.int .u8 0), (.int .u8 0), (.int .u8 0), (.int .u8 0), (.int .u8 0), (.int .u8 0), (.int .u8 0), (.int .u8 0), (.int .u8 0), (.int .u8 0)])⟩ := by kernel_rfl
@[push_cast] theorem t176 : ti Tryz.prog 176 = ⟨.func, 1, 8, some (.con .nilFunc)⟩ := by kernel_rfl
@[push_cast] theorem t177 : ti Tryz.prog 177 = ⟨.func, 1, 8, some (.con .nilFunc)⟩ := by kernel_rfl
@[push_cast] theorem t179 : ti Tryz.prog 179 = ⟨.func, 1, 8, some (.con .nilFunc)⟩ := by kernel_rfl
@[push_cast] theorem t180 : ti Tryz.prog 180 = ⟨.func, 1, 8, some (.con .nilFunc)⟩ := by kernel_rfl
@[push_cast] theorem t181 : ti Tryz.prog 181 = ⟨(.int .i64), 1, 8, some (.int .i64 0)⟩ := by kernel_rfl
@[push_cast] theorem t183 : ti Tryz.prog 183 = ⟨.func, 1, 8, some (.con .nilFunc)⟩ := by kernel_rfl
@[push_cast] theorem t184 : ti Tryz.prog 184 = ⟨(.ptr 208), 1, 8, some (.con (.pointer none))⟩ := by kernel_rfl
@[push_cast] theorem t185 : ti Tryz.prog 185 = ⟨.func, 1, 8, some (.con .nilFunc)⟩ := by kernel_rfl
@[push_cast] theorem t186 : ti Tryz.prog 186 = ⟨.func, 1, 8, some (.con .nilFunc)⟩ := by kernel_rfl
@[push_cast] theorem t188 : ti Tryz.prog 188 = ⟨.func, 1, 8, some (.con .nilFunc)⟩ := by kernel_rfl
@[push_cast] theorem t189 : ti Tryz.prog 189 = ⟨(.ptr 191), 1, 8, some (.con (.pointer none))⟩ := by kernel_rfl
@[push_cast] theorem t190 : ti Tryz.prog 190 = ⟨(.struct [(0, 189), (1, 23)]), 2, 32, some (.agg [(.con (.pointer none)), .nilsl])⟩ := by kernel_rfl
@[push_cast] theorem t191 : ti Tryz.prog 191 = ⟨(.struct [(0, 189), (1, 23)]), 2, 32, some (.agg [(.con (.pointer none)), .nilsl])⟩ := by kernel_rfl
@[push_cast] theorem t192 : ti Tryz.prog 192 = ⟨.func, 1, 8, some (.con .nilFunc)⟩ := by kernel_rfl
@[push_cast] theorem t193 : ti Tryz.prog 193 = ⟨.func, 1, 8, some (.con .nilFunc)⟩ := by kernel_rfl
@[push_cast] theorem t194 : ti Tryz.prog 194 = ⟨.func, 1, 8, some (.con .nilFunc)⟩ := by kernel_rfl
@[push_cast] theorem t195 : ti Tryz.prog 195 = ⟨.func, 1, 8, some (.con .nilFunc)⟩ := by kernel_rfl
@[push_cast] theorem t196 : ti Tryz.prog 196 = ⟨(.arr 20 121), 20, 160, some (.agg [(.int .u64 0), (.int .u64 0), (.int .u64 0), (.int .u64 0), (.int .u64 0), (.int .u64 0), (.int .u64 0), (.int .u64 0), (.int .u64 0), (.int .u64 0), (.int .u64 0), (.int .u64 0), (.int .u64 0), (.int .u64 0), (.int .u64 0), (.int .u64 0), (.int .u64 0), (.int .u64 0), (.int .u64 0), (.int .u64 0)])⟩ := by kernel_rfl
@[push_cast] theorem t197 : ti Tryz.prog 197 = ⟨(.arr 65 5), 65, 65, some (.agg [(.int .u8 0), (.int .u8 0), (.int .u8 0), (.int .u8 0), (.int .u8 0), (.int .u8 0), (.int .u8 0), (.int .u8 0), (.int .u8 0), (.int .u8 0), (.int .u8 0), (.int .u8 0), (.int .u8 0), (.int .u8 0), (.int .u8 0), (.int .u8 0), (.int .u8 0), (.int .u8 0), (.int .u8 0), (.int .u8 0), (.int .u8 0), (.int .u8 0), (.int .u8 0), (.int .u8 0), (.int .u8 0), (.int .u8 0), (.int .u8 0), (.int .u8 0), (.int .u8 0), (.int .u8 0), (.int .u8 0), (.int .u8 0), (.int .u8 0), (.int .u8 0), (.int .u8 0), (.int .u8 0), (.int .u8 0), (.int .u8 0), (.int .u8 0), (.int .u8 0), (.int .u8 0), (.int .u8 0), (.int .u8 0), (.int .u8 0), (.int .u8 0), (.int .u8 0), (.int .u8 0), (.int .u8 0), (.int .u8 0), (.int .u8 0), (.int .u8 0), (.int .u8 0), (.int .u8 0), (.int .u8 0), (.int .u8 0), (.int .u8 0), (.int .u8 0), (.int .u8 0), (.int .u8 0), (.int .u8 0), (.int .u8 0), (.int .u8 0), (.int .u8 0), (.int .u8 0), (.int .u8 0)])⟩ := by kernel_rfl
@[push_cast] theorem t198 : ti Tryz.prog 198 = ⟨.func, 1, 8, some (.con .nilFunc)⟩ := by kernel_rfl
@[push_cast] theorem t199 : ti Tryz.prog 199 = ⟨(.arr 256 5), 256, 256, some (.agg [(.int .u8 0), (.int .u8 0), (.int .u8 0), (.int .u8 0), (.int .u8 0), (.int .u8 0), (.int .u8 0), (.int .u8 0), (.int .u8 0), (.int .u8 0), (.int .u8 0), (.int .u8 0), (.int .u8 0), (.int .u8 0), (.int .u8 0), (.int .u8 0), (.int .u8 0), (.int .u8 0), (.int .u8 0), (.int .u8 0), (.int .u8 0), (.int .u8 0), (.int .u8 0), (.int .u8 0), (.int .u8 0), (.int .u8 0), (.int .u8 0), (.int .u8 0), (.int .u8 0), (.int .u8 0), (.int .u8 0), (.int .u8 0), (.int .u8 0), (.int .u8 0), (.int .u8 0), (.int .u8 0), (.int .u8 0), (.int .u8 0), (.int .u8 0), (.int .u8 0), (.int .u8 0), (.int .u8 0), (.int .u8 0), (.int .u8 0), (.int .u8 0), (.int .u8 0), (.int .u8 0), (.int .u8 0), (.int .u8 0), (.int .u8 0), (.int .u8 0), (.int .u8 0), (.int .u8 0), (.int .u8 0), (.int .u8 0), (.int .u8 0), (.int .u8 0), (.int .u8 0), (.int .u8 0), (.int .u8 0), (.int .u8 0), (.int .u8 0), (.int .u8 0), (.int .u8 0), (.int .u8 0), (.int .u8 0), (.int .u8 0), (.int .u8 0), (.int .u8 0), (.int .u8 0), (.int .u8 0), (.int .u8 0), (.int .u8 0), (.int .u8 0), (.int .u8 0), (.int .u8 0), (.int .u8 0), (.int .u8 0), (.int .u8 0), (.int .u8 0), (.int .u8 0), (.int .u8 0), (.int .u8 0), (.int .u8 0), (.int .u8 0), (.int .u8 0), (.int .u8 0), (.int .u8 0), (.int .u8 0), (.int .u8 0), (.int .u8 0), (.int .u8 0), (.int .u8 0), (.int .u8 0), (.int .u8 0), (.int .u8 0), (.int .u8 0), (.int .u8 0), (.int .u8 0), (.int .u8 0), (.int .u8 0), (.int .u8 0), (.int .u8 0), (.int .u8 0), (.int .u8 0), (.int .u8 0), (.int .u8 0), (.int .u8 0), (.int .u8 0), (.int .u8 0), (.int .u8 0), (.int .u8 0), (.int .u8 0), (.int .u8 0), (.int .u8 0), (.int .u8 0), (.int .u8 0), (.int .u8 0), (.int .u8 0), (.int .u8 0), (.int .u8 0), (.int .u8 0), (.int .u8 0), (.int .u8 0), (.int .u8 0), (.int .u8 0), (.int .u8 0), (.int .u8 0), (.int .u8 0), (.int .u8 0), (.int .u8 0), (.int .u8 0), (.int .u8 0), (.int .u8 0), (.int .u8 0), (.int .u8 0), (.int .u8 0), (.int .u8 0), (.int .u8 0), (.int .u8 0), (.int .u8 0), (.int .u8 0), (.int .u8 0), (.int .u8 0), (.int .u8 0), (.int .u8 0), (.int .u8 0), (.int .u8 0), (.int .u8 0), (.int .u8 0), (.int .u8 0), (.int .u8 0), (.int .u8 0), (.int .u8 0), (.int .u8 0), (.int .u8 0), (.int .u8 0), (.int .u8 0), (.int .u8 0), (.int .u8 0), (.int .u8 0), (.int .u8 0), (.int .u8 0), (.int .u8 0), (.int .u8 0), (.int .u8 0), (.int .u8 0), (.int .u8 0), (.int .u8 0), (.int .u8 0), (.int .u8 0), (.int .u8 0), (.int .u8 0), (.int .u8 0), (.int .u8 0), (.int .u8 0), (.int .u8 0), (.int .u8 0), (.int .u8 0), (.int .u8 0), (.int .u8 0), (.int .u8 0), (.int .u8 0), (.int .u8 0), (.int .u8 0), (.int .u8 0), (.int .u8 0), (.int .u8 0), (.int .u8 0), (.int .u8 0), (.int .u8 0), (.int .u8 0), (.int .u8 0), (.int .u8 0), (.int .u8 0), (.int .u8 0), (.int .u8 0), (.int .u8 0), (.int .u8 0), (.int .u8 0), (.int .u8 0), (.int .u8 0), (.int .u8 0), (.int .u8 0), (.int .u8 0), (.int .u8 0), (.int .u8 0), (.int .u8 0), (.int .u8 0), (.int .u8 0), (.int .u8 0), (.int .u8 0), (.int .u8 0), (.int .u8 0), (.int .u8 0), (.int .u8 0), (.int .u8 0), (.int .u8 0), (.int .u8 0), (.int .u8 0), (.int .u8 0), (.int .u8 0), (.int .u8 0), (.int .u8 0), (.int .u8 0), (.int .u8 0), (.int .u8 0), (.int .u8 0), (.int .u8 0), (.int .u8 0), (.int .u8 0), (.int .u8 0), (.int .u8 0), (.int .u8 0), (.int .u8 0), (.int .u8 0), (.int .u8 0), (.int .u8 0), (.int .u8 0), (.int .u8 0), (.int .u8 0), (.int .u8 0), (.int .u8 0), (.int .u8 0), (.int .u8 0), (.int .u8 0), (.int .u8 0), (.int .u8 0), (.int .u8 0), (.int .u8 0), (.int .u8 0), (.int .u8 0), (.int .u8 0), (.int .u8 0), (.int .u8 0), (.int .u8 0)])⟩ := by kernel_rfl
@[push_cast] theorem eq200 : EqOk Tryz.prog 200 = True := eq_true (eqOk_of (by kernel_rfl))
@[push_cast] theorem t200 : ti Tryz.prog 200 = ⟨(.struct [(0, 5), (1, 5)]), 2, 2, some (.agg [(.int .u8 0), (.int .u8 0)])⟩ := by kernel_rfl
@[push_cast] theorem eq201 : EqOk Tryz.prog 201 = True := eq_true (eqOk_of (by kernel_rfl))
@[push_cast] theorem t201 : ti Tryz.prog 201 = ⟨(.struct [(0, 5), (1, 5)]), 2, 2, some (.agg [(.int .u8 0), (.int .u8 0)])⟩ := by kernel_rfl
@[push_cast] theorem t202 : ti Tryz.prog 202 = ⟨(.arr 16 201), 32, 32, some (.agg [(.int .u8 0), (.int .u8 0), (.int .u8 0), (.int .u8 0), (.int .u8 0), (.int .u8 0), (.int .u8 0), (.int .u8 0), (.int .u8 0), (.int .u8 0), (.int .u8 0), (.int .u8 0), (.int .u8 0), (.int .u8 0), (.int .u8 0), (.int .u8 0), (.int .u8 0), (.int .u8 0), (.int .u8 0), (.int .u8 0), (.int .u8 0), (.int .u8 0), (.int .u8 0), (.int .u8 0), (.int .u8 0), (.int .u8 0), (.int .u8 0), (.int .u8 0), (.int .u8 0), (.int .u8 0), (.int .u8 0), (.int .u8 0)])⟩ := by kernel_rfl
@[push_cast] theorem t203 : ti Tryz.prog 203 = ⟨.func, 1, 8, some (.con .nilFunc)⟩ := by kernel_rfl
@[push_cast] theorem t204 : ti Tryz.prog 204 = ⟨.func, 1, 8, some (.con .nilFunc)⟩ := by kernel_rfl
@[push_cast] theorem t206 : ti Tryz.prog 206 = ⟨.func, 1, 8, some (.con .nilFunc)⟩ := by kernel_rfl
@[push_cast] theorem t207 : ti Tryz.prog 207 = ⟨(.struct [(0, 9), (1, 9), (2, 139)]), 3, 48, some (.agg [(.str []), (.str []), (.con .nilIface)])⟩ := by kernel_rfl
@[push_cast] theorem t208 : ti Tryz.prog 208 = ⟨(.struct [(0, 9), (1, 9), (2, 139)]), 3, 48, some (.agg [(.str []), (.str []), (.con .nilIface)])⟩ := by kernel_rfl
@[push_cast] theorem t209 : ti Tryz.prog 209 = ⟨.func, 1, 8, some (.con .nilFunc)⟩ := by kernel_rfl
@[push_cast] theorem t210 : ti Tryz.prog 210 = ⟨.func, 1, 8, some (.con .nilFunc)⟩ := by kernel_rfl
@[push_cast] theorem t212 : ti Tryz.prog 212 = ⟨.func, 1, 8, some (.con .nilFunc)⟩ := by kernel_rfl
@[push_cast] theorem t213 : ti Tryz.prog 213 = ⟨(.ptr 5), 1, 8, some (.con (.pointer none))⟩ := by kernel_rfl
@[push_cast] theorem t214 : ti Tryz.prog 214 = ⟨.func, 1, 8, some (.con .nilFunc)⟩ := by kernel_rfl
@[push_cast] theorem t215 : ti Tryz.prog 215 = ⟨.func, 1, 8, some (.con .nilFunc)⟩ := by kernel_rfl
@[push_cast] theorem t216 : ti Tryz.prog 216 = ⟨(.ptr 218), 1, 8, some (.con (.pointer none))⟩ := by kernel_rfl
@[push_cast] theorem eq217 : EqOk Tryz.prog 217 = True := eq_true (eqOk_of (by kernel_rfl))
@[push_cast] theorem t217 : ti Tryz.prog 217 = ⟨(.struct [(0, 9)]), 1, 16, some (.agg [(.str [])])⟩ := by kernel_rfl
@[push_cast] theorem eq218 : EqOk Tryz.prog 218 = True := eq_true (eqOk_of (by kernel_rfl))
@[push_cast] theorem t218 : ti Tryz.prog 218 = ⟨(.struct [(0, 9)]), 1, 16, some (.agg [(.str [])])⟩ := by kernel_rfl
@[push_cast] theorem t219 : ti Tryz.prog 219 = ⟨.other, 1, 8, some (.con (.pointer none))⟩ := by kernel_rfl
@[push_cast] theorem t220 : ti Tryz.prog 220 = ⟨.func, 1, 8, some (.con .nilFunc)⟩ := by kernel_rfl
@[push_cast] theorem t221 : ti Tryz.prog 221 = ⟨.func, 1, 8, some (.con .nilFunc)⟩ := by kernel_rfl
@[push_cast] theorem t222 : ti Tryz.prog 222 = ⟨(.arr 32 5), 32, 32, some (.agg [(.int .u8 0), (.int .u8 0), (.int .u8 0), (.int .u8 0), (.int .u8 0), (.int .u8 0), (.int .u8 0), (.int .u8 0), (.int .u8 0), (.int .u8 0), (.int .u8 0), (.int .u8 0), (.int .u8 0), (.int .u8 0), (.int .u8 0), (.int .u8 0), (.int .u8 0), (.int .u8 0), (.int .u8 0), (.int .u8 0), (.int .u8 0), (.int .u8 0), (.int .u8 0), (.int .u8 0), (.int .u8 0), (.int .u8 0), (.int .u8 0), (.int .u8 0), (.int .u8 0), (.int .u8 0), (.int .u8 0), (.int .u8 0)])⟩ := by kernel_rfl
@[push_cast] theorem t223 : ti Tryz.prog 223 = ⟨(.arr 64 5), 64, 64, some (.agg [(.int .u8 0), (.int .u8 0), (.int .u8 0), (.int .u8 0), (.int .u8 0), (.int .u8 0), (.int .u8 0), (.int .u8 0), (.int .u8 0), (.int .u8 0), (.int .u8 0), (.int .u8 0), (.int .u8 0), (.int .u8 0), (.int .u8 0), (.int .u8 0), (.int .u8 0), (.int .u8 0), (.int .u8 0), (.int .u8 0), (.int .u8 0), (.int .u8 0), (.int .u8 0), (.int .u8 0), (.int .u8 0), (.int .u8 0), (.int .u8 0), (.int .u8 0), (.int .u8 0), (.int .u8 0), (.int .u8 0), (.int .u8 0), (.int .u8 0), (.int .u8 0), (.int .u8 0), (.int .u8 0), (.int .u8 0), (.int .u8 0), (.int .u8 0), (.int .u8 0), (.int .u8 0), (.int .u8 0), (.int .u8 0), (.int .u8 0), (.int .u8 0), (.int .u8 0), (.int .u8 0), (.int .u8 0), (.int .u8 0), (.int .u8 0), (.int .u8 0), (.int .u8 0), (.int .u8 0), (.int .u8 0), (.int .u8 0), (.int .u8 0), (.int .u8 0), (.int .u8 0), (.int .u8 0), (.int .u8 0), (.int .u8 0), (.int .u8 0), (.int .u8 0), (.int .u8 0)])⟩ := by kernel_rfl
@[push_cast] theorem t224 : ti Tryz.prog 224 = ⟨.func, 1, 8, some (.con .nilFunc)⟩ := by kernel_rfl
@[push_cast] theorem t225 : ti Tryz.prog 225 = ⟨(.struct [(0, 17), (1, 17), (2, 17), (3, 9)]), 4, 40, some (.agg [(.con (.pointer none)), (.con (.pointer none)), (.con (.pointer none)), (.str [])])⟩ := by kernel_rfl
@[push_cast] theorem t226 : ti Tryz.prog 226 = ⟨(.struct [(0, 17), (1, 17), (2, 17), (3, 9)]), 4, 40, some (.agg [(.con (.pointer none)), (.con (.pointer none)), (.con (.pointer none)), (.str [])])⟩ := by kernel_rfl
@[push_cast] theorem t227 : ti Tryz.prog 227 = ⟨(.arr 0 16), 0, 0, some (.agg [])⟩ := by kernel_rfl
@[push_cast] theorem t228 : ti Tryz.prog 228 = ⟨(.struct [(0, 227)]), 0, 0, some (.agg [])⟩ := by kernel_rfl
@[push_cast] theorem t229 : ti Tryz.prog 229 = ⟨(.struct [(0, 227)]), 0, 0, some (.agg [])⟩ := by kernel_rfl
@[push_cast] theorem t230 : ti Tryz.prog 230 = ⟨(.int .u8), 1, 1, some (.int .u8 0)⟩ := by kernel_rfl
@[push_cast] theorem t231 : ti Tryz.prog 231 = ⟨(.int .u8), 1, 1, some (.int .u8 0)⟩ := by kernel_rfl
@[push_cast] theorem t232 : ti Tryz.prog 232 = ⟨.func, 1, 8, some (.con .nilFunc)⟩ := by kernel_rfl
@[push_cast] theorem t233 : ti Tryz.prog 233 = ⟨(.int .i32), 1, 4, some (.int .i32 0)⟩ := by kernel_rfl
@[push_cast] theorem t234 : ti Tryz.prog 234 = ⟨(.int .i32), 1, 4, some (.int .i32 0)⟩ := by kernel_rfl
@[push_cast] theorem t235 : ti Tryz.prog 235 = ⟨(.struct [(0, 12), (1, 12), (2, 149), (3, 230), (4, 5), (5, 5), (6, 231), (7, 232), (8, 213), (9, 233), (10, 234)]), 11, 48, some (.agg [(.int .u64 0), (.int .u64 0), (.int .u32 0), (.int .u8 0), (.int .u8 0), (.int .u8 0), (.int .u8 0), (.con .nilFunc), (.con (.pointer none)), (.int .i32 0), (.int .i32 0)])⟩ := by kernel_rfl
@[push_cast] theorem t236 : ti Tryz.prog 236 = ⟨(.struct [(0, 12), (1, 12), (2, 149), (3, 230), (4, 5), (5, 5), (6, 231), (7, 232), (8, 213), (9, 233), (10, 234)]), 11, 48, some (.agg [(.int .u64 0), (.int .u64 0), (.int .u32 0), (.int .u8 0), (.int .u8 0), (.int .u8 0), (.int .u8 0), (.con .nilFunc), (.con (.pointer none)), (.int .i32 0), (.int .i32 0)])⟩ := by kernel_rfl
theorem n2 : Tryz.prog.funcs[2]? = some Tryz.f2 := by kernel_rfl
theorem e2 : entB Tryz.prog 2 = true := by kernel_rfl
theorem o2 : bodyOk (anL []) Tryz.f2 = true := by kernel_rfl
theorem n3 : Tryz.prog.funcs[3]? = some Tryz.f3 := by kernel_rfl
theorem e3 : entB Tryz.prog 3 = true := by kernel_rfl
theorem o3 : bodyOk (anL []) Tryz.f3 = true := by kernel_rfl
theorem w3 {ct : Ct} (ow : Nat → Bool) (ad : List Adj) {code : Code} (hb : Tryz.f3.body = some code) (hc : CtOk pg ct) {args : List V} {r : V} (ha : Nat.ble args.length 35 = true) (hr : r.noId = true) (h : exec ⟨pg, ct, ow, 35, anL []⟩ code ⟨argE args, hOf []⟩ (PostF pg.prog ad [.tmp 2] r [])) : PCall pg 3 args r := pcall_inF ad hc fol 3 n3 hb rfl e3 rfl (bodyOk_at o3 hb rfl) ha hr h
theorem n4 : Tryz.prog.funcs[4]? = some Tryz.f4 := by kernel_rfl
theorem e4 : entB Tryz.prog 4 = true := by kernel_rfl
theorem o4 : bodyOk (anL []) Tryz.f4 = true := by kernel_rfl
theorem n12 : Tryz.prog.funcs[12]? = some Tryz.f12 := by kernel_rfl
theorem e12 : entB Tryz.prog 12 = true := by kernel_rfl
theorem o12 : bodyOk (anL []) Tryz.f12 = true := by kernel_rfl
theorem w12 {ct : Ct} (ow : Nat → Bool) (ad : List Adj) {code : Code} (hb : Tryz.f12.body = some code) (hc : CtOk pg ct) {args : List V} {r : V} (ha : Nat.ble args.length 24 = true) (hr : r.noId = true) (h : exec ⟨pg, ct, ow, 24, anL []⟩ code ⟨argE args, hOf []⟩ (PostF pg.prog ad [.tmp 2, .tmp 3] r [])) : PCall pg 12 args r := pcall_inF ad hc fol 12 n12 hb rfl e12 rfl (bodyOk_at o12 hb rfl) ha hr h
theorem n13 : Tryz.prog.funcs[13]? = some Tryz.f13 := by kernel_rfl
theorem e13 : entB Tryz.prog 13 = true := by kernel_rfl
theorem o13 : bodyOk (anL []) Tryz.f13 = true := by kernel_rfl
theorem w13 {ct : Ct} (ow : Nat → Bool) (ad : List Adj) {code : Code} (hb : Tryz.f13.body = some code) (hc : CtOk pg ct) {args : List V} {r : V} (ha : Nat.ble args.length 26 = true) (hr : r.noId = true) (h : exec ⟨pg, ct, ow, 26, anL []⟩ code ⟨argE args, hOf []⟩ (PostF pg.prog ad [.tmp 2, .tmp 3] r [])) : PCall pg 13 args r := pcall_inF ad hc fol 13 n13 hb rfl e13 rfl (bodyOk_at o13 hb rfl) ha hr h
theorem n14 : Tryz.prog.funcs[14]? = some Tryz.f14 := by kernel_rfl
theorem e14 : entB Tryz.prog 14 = true := by kernel_rfl
theorem o14 : bodyOk (anL []) Tryz.f14 = true := by kernel_rfl
theorem w14 {ct : Ct} (ow : Nat → Bool) (ad : List Adj) {code : Code} (hb : Tryz.f14.body = some code) (hc : CtOk pg ct) {args : List V} {r : V} (ha : Nat.ble args.length 38 = true) (hr : r.noId = true) (h : exec ⟨pg, ct, ow, 38, anL []⟩ code ⟨argE args, hOf []⟩ (PostF pg.prog ad [.tmp 2] r [])) : PCall pg 14 args r := pcall_inF ad hc fol 14 n14 hb rfl e14 rfl (bodyOk_at o14 hb rfl) ha hr h
theorem n15 : Tryz.prog.funcs[15]? = some Tryz.f15 := by kernel_rfl
theorem e15 : entB Tryz.prog 15 = true := by kernel_rfl
theorem o15 : bodyOk (anL [(10, [0, 0, 3, 0, 0, 24, 56, 120, 255, 511])]) Tryz.f15 = true := by kernel_rfl
theorem w15 {ct : Ct} (ow : Nat → Bool) (ad : List Adj) {code : Code} (hb : Tryz.f15.body = some code) (hc : CtOk pg ct) {args : List V} {r : V} (ha : Nat.ble args.length 43 = true) (hr : r.noId = true) (h : exec ⟨pg, ct, ow, 43, anL [(10, [0, 0, 3, 0, 0, 24, 56, 120, 255, 511])]⟩ code ⟨argE args, hOf []⟩ (PostF pg.prog ad [.tmp 2] r [])) : PCall pg 15 args r := pcall_inF ad hc fol 15 n15 hb rfl e15 rfl (bodyOk_at o15 hb rfl) ha hr h
theorem n16 : Tryz.prog.funcs[16]? = some Tryz.f16 := by kernel_rfl
theorem e16 : entB Tryz.prog 16 = true := by kernel_rfl
theorem o16 : bodyOk (anL []) Tryz.f16 = true := by kernel_rfl
theorem w16 {ct : Ct} (ow : Nat → Bool) (ad : List Adj) {code : Code} (hb : Tryz.f16.body = some code) (hc : CtOk pg ct) {args : List V} {r : V} (ha : Nat.ble args.length 10 = true) (hr : r.noId = true) (h : exec ⟨pg, ct, ow, 10, anL []⟩ code ⟨argE args, hOf []⟩ (PostF pg.prog ad [.tmp 4] r [])) : PCall pg 16 args r := pcall_inF ad hc fol 16 n16 hb rfl e16 rfl (bodyOk_at o16 hb rfl) ha hr h
theorem n17 : Tryz.prog.funcs[17]? = some Tryz.f17 := by kernel_rfl
theorem e17 : entB Tryz.prog 17 = true := by kernel_rfl
theorem o17 : bodyOk (anL []) Tryz.f17 = true := by kernel_rfl
theorem w17 {ct : Ct} (ow : Nat → Bool) (ad : List Adj) {code : Code} (hb : Tryz.f17.body = some code) (hc : CtOk pg ct) {args : List V} {r : V} (ha : Nat.ble args.length 14 = true) (hr : r.noId = true) (h : exec ⟨pg, ct, ow, 14, anL []⟩ code ⟨argE args, hOf []⟩ (PostF pg.prog ad [.tmp 0] r [])) : PCall pg 17 args r := pcall_inF ad hc fol 17 n17 hb rfl e17 rfl (bodyOk_at o17 hb rfl) ha hr h
theorem n24 : Tryz.prog.funcs[24]? = some Tryz.f24 := by kernel_rfl
theorem e24 : entB Tryz.prog 24 = true := by kernel_rfl
theorem o24 : bodyOk (anL []) Tryz.f24 = true := by kernel_rfl
theorem w24 {ct : Ct} (ow : Nat → Bool) (ad : List Adj) {code : Code} (hb : Tryz.f24.body = some code) (hc : CtOk pg ct) {args : List V} {r : V} (ha : Nat.ble args.length 12 = true) (hr : r.noId = true) (h : exec ⟨pg, ct, ow, 12, anL []⟩ code ⟨argE args, hOf []⟩ (PostF pg.prog ad [.tmp 2, .tmp 3] r [])) : PCall pg 24 args r := pcall_inF ad hc fol 24 n24 hb rfl e24 rfl (bodyOk_at o24 hb rfl) ha hr h
theorem n41 : Tryz.prog.funcs[41]? = some Tryz.f41 := by kernel_rfl
theorem e41 : entB Tryz.prog 41 = true := by kernel_rfl
theorem o41 : bodyOk (anL [(6, [0, 0, 0, 4, 12, 30, 62, 127]), (17, [0, 1, 0, 4, 15, 31])]) Tryz.f41 = true := by kernel_rfl
theorem w41 {ct : Ct} (ow : Nat → Bool) (ad : List Adj) {code : Code} (hb : Tryz.f41.body = some code) (hc : CtOk pg ct) {args : List V} {r : V} (ha : Nat.ble args.length 77 = true) (hr : r.noId = true) (h : exec ⟨pg, ct, ow, 77, anL [(6, [0, 0, 0, 4, 12, 30, 62, 127]), (17, [0, 1, 0, 4, 15, 31])]⟩ code ⟨argE args, hOf []⟩ (PostF pg.prog ad [.tmp 4] r [])) : PCall pg 41 args r := pcall_inF ad hc fol 41 n41 hb rfl e41 rfl (bodyOk_at o41 hb rfl) ha hr h
theorem fw41 {ct : Ct} (ow : Nat → Bool) (ad : List Adj) {code : Code} (hb : Tryz.f41.body = some code) (hc : CtOk pg ct) {args : List V} {hl hl' : HL} {r : V} (ha : Nat.ble args.length 77 = true) (hlo : ∀ p ∈ hl, 9000 ≤ p.1) (hin : hlIn (idsIn hl) hl') (hr : V.menIn (idsIn hl) r = true) (h : exec ⟨pg, ct, ow, 77, anL [(6, [0, 0, 0, 4, 12, 30, 62, 127]), (17, [0, 1, 0, 4, 15, 31])]⟩ code ⟨argE args, hOf hl⟩ (PostF pg.prog ad [.tmp 4] r hl')) : FCall pg 41 args hl r hl' := fcall_inF ad hc fol 41 n41 hb rfl e41 rfl (bodyOk_at o41 hb rfl) ha hlo hin hr h
theorem n42 : Tryz.prog.funcs[42]? = some Tryz.f42 := by kernel_rfl
theorem e42 : entB Tryz.prog 42 = true := by kernel_rfl
theorem o42 : bodyOk (anL [(4, [0, 0, 2, 6, 14, 30, 0, 64, 206, 510, 1022, 0, 2048, 8190, 16382, 32767, 65535]), (8, [0, 0, 2, 0, 14, 30, 62, 126, 0, 256, 0, 1792, 3840, 7936, 16382, 32766, 65535, 131071]), (9, [0, 0, 2, 6, 14, 30, 62, 0, 128, 414, 1022, 2046, 4095, 8191])]) Tryz.f42 = true := by kernel_rfl
theorem w42 {ct : Ct} (ow : Nat → Bool) (ad : List Adj) {code : Code} (hb : Tryz.f42.body = some code) (hc : CtOk pg ct) {args : List V} {r : V} (ha : Nat.ble args.length 79 = true) (hr : r.noId = true) (h : exec ⟨pg, ct, ow, 79, anL [(4, [0, 0, 2, 6, 14, 30, 0, 64, 206, 510, 1022, 0, 2048, 8190, 16382, 32767, 65535]), (8, [0, 0, 2, 0, 14, 30, 62, 126, 0, 256, 0, 1792, 3840, 7936, 16382, 32766, 65535, 131071]), (9, [0, 0, 2, 6, 14, 30, 62, 0, 128, 414, 1022, 2046, 4095, 8191])]⟩ code ⟨argE args, hOf []⟩ (PostF pg.prog ad [.tmp 2] r [])) : PCall pg 42 args r := pcall_inF ad hc fol 42 n42 hb rfl e42 rfl (bodyOk_at o42 hb rfl) ha hr h
theorem n43 : Tryz.prog.funcs[43]? = some Tryz.f43 := by kernel_rfl
theorem e43 : entB Tryz.prog 43 = true := by kernel_rfl
theorem o43 : bodyOk (anL [(21, [0, 0, 2, 7, 15])]) Tryz.f43 = true := by kernel_rfl
theorem w43 {ct : Ct} (ow : Nat → Bool) (ad : List Adj) {code : Code} (hb : Tryz.f43.body = some code) (hc : CtOk pg ct) {args : List V} {r : V} (ha : Nat.ble args.length 105 = true) (hr : r.noId = true) (h : exec ⟨pg, ct, ow, 105, anL [(21, [0, 0, 2, 7, 15])]⟩ code ⟨argE args, hOf []⟩ (PostF pg.prog ad [.tmp 2] r [])) : PCall pg 43 args r := pcall_inF ad hc fol 43 n43 hb rfl e43 rfl (bodyOk_at o43 hb rfl) ha hr h
theorem n44 : Tryz.prog.funcs[44]? = some Tryz.f44 := by kernel_rfl
theorem e44 : entB Tryz.prog 44 = true := by kernel_rfl
theorem o44 : bodyOk (anL []) Tryz.f44 = true := by kernel_rfl
theorem w44 {ct : Ct} (ow : Nat → Bool) (ad : List Adj) {code : Code} (hb : Tryz.f44.body = some code) (hc : CtOk pg ct) {args : List V} {r : V} (ha : Nat.ble args.length 101 = true) (hr : r.noId = true) (h : exec ⟨pg, ct, ow, 101, anL []⟩ code ⟨argE args, hOf []⟩ (PostF pg.prog ad [.tmp 2] r [])) : PCall pg 44 args r := pcall_inF ad hc fol 44 n44 hb rfl e44 rfl (bodyOk_at o44 hb rfl) ha hr h
theorem n45 : Tryz.prog.funcs[45]? = some Tryz.f45 := by kernel_rfl
theorem e45 : entB Tryz.prog 45 = true := by kernel_rfl
theorem o45 : bodyOk (anL []) Tryz.f45 = true := by kernel_rfl
theorem w45 {ct : Ct} (ow : Nat → Bool) (ad : List Adj) {code : Code} (hb : Tryz.f45.body = some code) (hc : CtOk pg ct) {args : List V} {r : V} (ha : Nat.ble args.length 20 = true) (hr : r.noId = true) (h : exec ⟨pg, ct, ow, 20, anL []⟩ code ⟨argE args, hOf []⟩ (PostF pg.prog ad [.tmp 4] r [])) : PCall pg 45 args r := pcall_inF ad hc fol 45 n45 hb rfl e45 rfl (bodyOk_at o45 hb rfl) ha hr h
theorem n46 : Tryz.prog.funcs[46]? = some Tryz.f46 := by kernel_rfl
theorem e46 : entB Tryz.prog 46 = true := by kernel_rfl
theorem o46 : bodyOk (anL []) Tryz.f46 = true := by kernel_rfl
theorem w46 {ct : Ct} (ow : Nat → Bool) (ad : List Adj) {code : Code} (hb : Tryz.f46.body = some code) (hc : CtOk pg ct) {args : List V} {r : V} (ha : Nat.ble args.length 13 = true) (hr : r.noId = true) (h : exec ⟨pg, ct, ow, 13, anL []⟩ code ⟨argE args, hOf []⟩ (PostF pg.prog ad [.tmp 2, .tmp 3] r [])) : PCall pg 46 args r := pcall_inF ad hc fol 46 n46 hb rfl e46 rfl (bodyOk_at o46 hb rfl) ha hr h
theorem n48 : Tryz.prog.funcs[48]? = some Tryz.f48 := by kernel_rfl
theorem e48 : entB Tryz.prog 48 = true := by kernel_rfl
theorem o48 : bodyOk (anL []) Tryz.f48 = true := by kernel_rfl
theorem w48 {ct : Ct} (ow : Nat → Bool) (ad : List Adj) {code : Code} (hb : Tryz.f48.body = some code) (hc : CtOk pg ct) {args : List V} {r : V} (ha : Nat.ble args.length 15 = true) (hr : r.noId = true) (h : exec ⟨pg, ct, ow, 15, anL []⟩ code ⟨argE args, hOf []⟩ (PostF pg.prog ad [.tmp 6] r [])) : PCall pg 48 args r := pcall_inF ad hc fol 48 n48 hb rfl e48 rfl (bodyOk_at o48 hb rfl) ha hr h
theorem n50 : Tryz.prog.funcs[50]? = some Tryz.f50 := by kernel_rfl
theorem e50 : entB Tryz.prog 50 = true := by kernel_rfl
theorem o50 : bodyOk (anL []) Tryz.f50 = true := by kernel_rfl
theorem w50 {ct : Ct} (ow : Nat → Bool) (ad : List Adj) {code : Code} (hb : Tryz.f50.body = some code) (hc : CtOk pg ct) {args : List V} {r : V} (ha : Nat.ble args.length 26 = true) (hr : r.noId = true) (h : exec ⟨pg, ct, ow, 26, anL []⟩ code ⟨argE args, hOf []⟩ (PostF pg.prog ad [.tmp 2] r [])) : PCall pg 50 args r := pcall_inF ad hc fol 50 n50 hb rfl e50 rfl (bodyOk_at o50 hb rfl) ha hr h
theorem n54 : Tryz.prog.funcs[54]? = some Tryz.f54 := by kernel_rfl
theorem e54 : entB Tryz.prog 54 = true := by kernel_rfl
theorem o54 : bodyOk (anL []) Tryz.f54 = true := by kernel_rfl
theorem w54 {ct : Ct} (ow : Nat → Bool) (ad : List Adj) {code : Code} (hb : Tryz.f54.body = some code) (hc : CtOk pg ct) {args : List V} {r : V} (ha : Nat.ble args.length 47 = true) (hr : r.noId = true) (h : exec ⟨pg, ct, ow, 47, anL []⟩ code ⟨argE args, hOf []⟩ (PostF pg.prog ad [.tmp 2] r [])) : PCall pg 54 args r := pcall_inF ad hc fol 54 n54 hb rfl e54 rfl (bodyOk_at o54 hb rfl) ha hr h
theorem n63 : Tryz.prog.funcs[63]? = some Tryz.f63 := by kernel_rfl
theorem e63 : entB Tryz.prog 63 = true := by kernel_rfl
theorem o63 : bodyOk (anL []) Tryz.f63 = true := by kernel_rfl
theorem fw63 {ct : Ct} (ow : Nat → Bool) (ad : List Adj) {code : Code} (hb : Tryz.f63.body = some code) (hc : CtOk pg ct) {args : List V} {hl hl' : HL} {r : V} (ha : Nat.ble args.length 12 = true) (hlo : ∀ p ∈ hl, 9000 ≤ p.1) (hin : hlIn (idsIn hl) hl') (hr : V.menIn (idsIn hl) r = true) (h : exec ⟨pg, ct, ow, 12, anL []⟩ code ⟨argE args, hOf hl⟩ (PostF pg.prog ad [] r hl')) : FCall pg 63 args hl r hl' := fcall_inF ad hc fol 63 n63 hb rfl e63 rfl (bodyOk_at o63 hb rfl) ha hlo hin hr h
theorem n64 : Tryz.prog.funcs[64]? = some Tryz.f64 := by kernel_rfl
theorem e64 : entB Tryz.prog 64 = true := by kernel_rfl
theorem o64 : bodyOk (anL []) Tryz.f64 = true := by kernel_rfl
theorem w64 {ct : Ct} (ow : Nat → Bool) (ad : List Adj) {code : Code} (hb : Tryz.f64.body = some code) (hc : CtOk pg ct) {args : List V} {r : V} (ha : Nat.ble args.length 2 = true) (hr : r.noId = true) (h : exec ⟨pg, ct, ow, 2, anL []⟩ code ⟨argE args, hOf []⟩ (PostF pg.prog ad [.tmp 0] r [])) : PCall pg 64 args r := pcall_inF ad hc fol 64 n64 hb rfl e64 rfl (bodyOk_at o64 hb rfl) ha hr h
theorem n65 : Tryz.prog.funcs[65]? = some Tryz.f65 := by kernel_rfl
theorem e65 : entB Tryz.prog 65 = true := by kernel_rfl
theorem o65 : bodyOk (anL []) Tryz.f65 = true := by kernel_rfl
theorem w65 {ct : Ct} (ow : Nat → Bool) (ad : List Adj) {code : Code} (hb : Tryz.f65.body = some code) (hc : CtOk pg ct) {args : List V} {r : V} (ha : Nat.ble args.length 9 = true) (hr : r.noId = true) (h : exec ⟨pg, ct, ow, 9, anL []⟩ code ⟨argE args, hOf []⟩ (PostF pg.prog ad [.tmp 2, .tmp 3] r [])) : PCall pg 65 args r := pcall_inF ad hc fol 65 n65 hb rfl e65 rfl (bodyOk_at o65 hb rfl) ha hr h
theorem n67 : Tryz.prog.funcs[67]? = some Tryz.f67 := by kernel_rfl
theorem e67 : entB Tryz.prog 67 = true := by kernel_rfl
theorem o67 : bodyOk (anL []) Tryz.f67 = true := by kernel_rfl
theorem w67 {ct : Ct} (ow : Nat → Bool) (ad : List Adj) {code : Code} (hb : Tryz.f67.body = some code) (hc : CtOk pg ct) {args : List V} {r : V} (ha : Nat.ble args.length 6 = true) (hr : r.noId = true) (h : exec ⟨pg, ct, ow, 6, anL []⟩ code ⟨argE args, hOf []⟩ (PostF pg.prog ad [.tmp 2] r [])) : PCall pg 67 args r := pcall_inF ad hc fol 67 n67 hb rfl e67 rfl (bodyOk_at o67 hb rfl) ha hr h
theorem n68 : Tryz.prog.funcs[68]? = some Tryz.f68 := by kernel_rfl
theorem e68 : entB Tryz.prog 68 = true := by kernel_rfl
theorem o68 : bodyOk (anL []) Tryz.f68 = true := by kernel_rfl
theorem w68 {ct : Ct} (ow : Nat → Bool) (ad : List Adj) {code : Code} (hb : Tryz.f68.body = some code) (hc : CtOk pg ct) {args : List V} {r : V} (ha : Nat.ble args.length 8 = true) (hr : r.noId = true) (h : exec ⟨pg, ct, ow, 8, anL []⟩ code ⟨argE args, hOf []⟩ (PostF pg.prog ad [.tmp 2] r [])) : PCall pg 68 args r := pcall_inF ad hc fol 68 n68 hb rfl e68 rfl (bodyOk_at o68 hb rfl) ha hr h
theorem n69 : Tryz.prog.funcs[69]? = some Tryz.f69 := by kernel_rfl
theorem e69 : entB Tryz.prog 69 = true := by kernel_rfl
theorem o69 : bodyOk (anL [(10, [0, 1, 0, 4, 12, 31, 63, 0, 128, 384, 1023, 2047, 0, 4992, 16383, 32767, 0, 65536, 209792, 524287, 0, 1520512, 4194303, 8388607, 0, 16777216, 53949312, 134217727, 268435455, 0, 536870912, 1610612736, 3879154560, 8589934591, 17179869183, 0, 34359738368, 111253336960, 274877906943, 549755813887, 1099511627775])]) Tryz.f69 = true := by kernel_rfl
theorem w69 {ct : Ct} (ow : Nat → Bool) (ad : List Adj) {code : Code} (hb : Tryz.f69.body = some code) (hc : CtOk pg ct) {args : List V} {r : V} (ha : Nat.ble args.length 77 = true) (hr : r.noId = true) (h : exec ⟨pg, ct, ow, 77, anL [(10, [0, 1, 0, 4, 12, 31, 63, 0, 128, 384, 1023, 2047, 0, 4992, 16383, 32767, 0, 65536, 209792, 524287, 0, 1520512, 4194303, 8388607, 0, 16777216, 53949312, 134217727, 268435455, 0, 536870912, 1610612736, 3879154560, 8589934591, 17179869183, 0, 34359738368, 111253336960, 274877906943, 549755813887, 1099511627775])]⟩ code ⟨argE args, hOf []⟩ (PostF pg.prog ad [.tmp 2] r [])) : PCall pg 69 args r := pcall_inF ad hc fol 69 n69 hb rfl e69 rfl (bodyOk_at o69 hb rfl) ha hr h
theorem n70 : Tryz.prog.funcs[70]? = some Tryz.f70 := by kernel_rfl
theorem e70 : entB Tryz.prog 70 = true := by kernel_rfl
theorem o70 : bodyOk (anL []) Tryz.f70 = true := by kernel_rfl
theorem w70 {ct : Ct} (ow : Nat → Bool) (ad : List Adj) {code : Code} (hb : Tryz.f70.body = some code) (hc : CtOk pg ct) {args : List V} {r : V} (ha : Nat.ble args.length 37 = true) (hr : r.noId = true) (h : exec ⟨pg, ct, ow, 37, anL []⟩ code ⟨argE args, hOf []⟩ (PostF pg.prog ad [.tmp 2] r [])) : PCall pg 70 args r := pcall_inF ad hc fol 70 n70 hb rfl e70 rfl (bodyOk_at o70 hb rfl) ha hr h
theorem n71 : Tryz.prog.funcs[71]? = some Tryz.f71 := by kernel_rfl
theorem e71 : entB Tryz.prog 71 = true := by kernel_rfl
theorem o71 : bodyOk (anL []) Tryz.f71 = true := by kernel_rfl
theorem w71 {ct : Ct} (ow : Nat → Bool) (ad : List Adj) {code : Code} (hb : Tryz.f71.body = some code) (hc : CtOk pg ct) {args : List V} {r : V} (ha : Nat.ble args.length 9 = true) (hr : r.noId = true) (h : exec ⟨pg, ct, ow, 9, anL []⟩ code ⟨argE args, hOf []⟩ (PostF pg.prog ad [.tmp 2] r [])) : PCall pg 71 args r := pcall_inF ad hc fol 71 n71 hb rfl e71 rfl (bodyOk_at o71 hb rfl) ha hr h
theorem n72 : Tryz.prog.funcs[72]? = some Tryz.f72 := by kernel_rfl
theorem e72 : entB Tryz.prog 72 = true := by kernel_rfl
theorem o72 : bodyOk (anL []) Tryz.f72 = true := by kernel_rfl
theorem w72 {ct : Ct} (ow : Nat → Bool) (ad : List Adj) {code : Code} (hb : Tryz.f72.body = some code) (hc : CtOk pg ct) {args : List V} {r : V} (ha : Nat.ble args.length 28 = true) (hr : r.noId = true) (h : exec ⟨pg, ct, ow, 28, anL []⟩ code ⟨argE args, hOf []⟩ (PostF pg.prog ad [.tmp 2] r [])) : PCall pg 72 args r := pcall_inF ad hc fol 72 n72 hb rfl e72 rfl (bodyOk_at o72 hb rfl) ha hr h
theorem n73 : Tryz.prog.funcs[73]? = some Tryz.f73 := by kernel_rfl
theorem e73 : entB Tryz.prog 73 = true := by kernel_rfl
theorem o73 : bodyOk (anL []) Tryz.f73 = true := by kernel_rfl
theorem w73 {ct : Ct} (ow : Nat → Bool) (ad : List Adj) {code : Code} (hb : Tryz.f73.body = some code) (hc : CtOk pg ct) {args : List V} {r : V} (ha : Nat.ble args.length 23 = true) (hr : r.noId = true) (h : exec ⟨pg, ct, ow, 23, anL []⟩ code ⟨argE args, hOf []⟩ (PostF pg.prog ad [.tmp 2] r [])) : PCall pg 73 args r := pcall_inF ad hc fol 73 n73 hb rfl e73 rfl (bodyOk_at o73 hb rfl) ha hr h
theorem n74 : Tryz.prog.funcs[74]? = some Tryz.f74 := by kernel_rfl
theorem e74 : entB Tryz.prog 74 = true := by kernel_rfl
theorem o74 : bodyOk (anL []) Tryz.f74 = true := by kernel_rfl
theorem w74 {ct : Ct} (ow : Nat → Bool) (ad : List Adj) {code : Code} (hb : Tryz.f74.body = some code) (hc : CtOk pg ct) {args : List V} {r : V} (ha : Nat.ble args.length 9 = true) (hr : r.noId = true) (h : exec ⟨pg, ct, ow, 9, anL []⟩ code ⟨argE args, hOf []⟩ (PostF pg.prog ad [.tmp 4] r [])) : PCall pg 74 args r := pcall_inF ad hc fol 74 n74 hb rfl e74 rfl (bodyOk_at o74 hb rfl) ha hr h
theorem n75 : Tryz.prog.funcs[75]? = some Tryz.f75 := by kernel_rfl
theorem e75 : entB Tryz.prog 75 = true := by kernel_rfl
theorem o75 : bodyOk (anL []) Tryz.f75 = true := by kernel_rfl
theorem w75 {ct : Ct} (ow : Nat → Bool) (ad : List Adj) {code : Code} (hb : Tryz.f75.body = some code) (hc : CtOk pg ct) {args : List V} {r : V} (ha : Nat.ble args.length 2 = true) (hr : r.noId = true) (h : exec ⟨pg, ct, ow, 2, anL []⟩ code ⟨argE args, hOf []⟩ (PostF pg.prog ad [.tmp 0] r [])) : PCall pg 75 args r := pcall_inF ad hc fol 75 n75 hb rfl e75 rfl (bodyOk_at o75 hb rfl) ha hr h
theorem n76 : Tryz.prog.funcs[76]? = some Tryz.f76 := by kernel_rfl
theorem e76 : entB Tryz.prog 76 = true := by kernel_rfl
theorem o76 : bodyOk (anL []) Tryz.f76 = true := by kernel_rfl
theorem w76 {ct : Ct} (ow : Nat → Bool) (ad : List Adj) {code : Code} (hb : Tryz.f76.body = some code) (hc : CtOk pg ct) {args : List V} {r : V} (ha : Nat.ble args.length 30 = true) (hr : r.noId = true) (h : exec ⟨pg, ct, ow, 30, anL []⟩ code ⟨argE args, hOf []⟩ (PostF pg.prog ad [.tmp 2] r [])) : PCall pg 76 args r := pcall_inF ad hc fol 76 n76 hb rfl e76 rfl (bodyOk_at o76 hb rfl) ha hr h
theorem n77 : Tryz.prog.funcs[77]? = some Tryz.f77 := by kernel_rfl
theorem e77 : entB Tryz.prog 77 = true := by kernel_rfl
theorem o77 : bodyOk (anL []) Tryz.f77 = true := by kernel_rfl
theorem w77 {ct : Ct} (ow : Nat → Bool) (ad : List Adj) {code : Code} (hb : Tryz.f77.body = some code) (hc : CtOk pg ct) {args : List V} {r : V} (ha : Nat.ble args.length 23 = true) (hr : r.noId = true) (h : exec ⟨pg, ct, ow, 23, anL []⟩ code ⟨argE args, hOf []⟩ (PostF pg.prog ad [.tmp 2] r [])) : PCall pg 77 args r := pcall_inF ad hc fol 77 n77 hb rfl e77 rfl (bodyOk_at o77 hb rfl) ha hr h
theorem n78 : Tryz.prog.funcs[78]? = some Tryz.f78 := by kernel_rfl
theorem e78 : entB Tryz.prog 78 = true := by kernel_rfl
theorem o78 : bodyOk (anL []) Tryz.f78 = true := by kernel_rfl
theorem w78 {ct : Ct} (ow : Nat → Bool) (ad : List Adj) {code : Code} (hb : Tryz.f78.body = some code) (hc : CtOk pg ct) {args : List V} {r : V} (ha : Nat.ble args.length 27 = true) (hr : r.noId = true) (h : exec ⟨pg, ct, ow, 27, anL []⟩ code ⟨argE args, hOf []⟩ (PostF pg.prog ad [.tmp 2] r [])) : PCall pg 78 args r := pcall_inF ad hc fol 78 n78 hb rfl e78 rfl (bodyOk_at o78 hb rfl) ha hr h
theorem n79 : Tryz.prog.funcs[79]? = some Tryz.f79 := by kernel_rfl
theorem e79 : entB Tryz.prog 79 = true := by kernel_rfl
theorem o79 : bodyOk (anL []) Tryz.f79 = true := by kernel_rfl
theorem w79 {ct : Ct} (ow : Nat → Bool) (ad : List Adj) {code : Code} (hb : Tryz.f79.body = some code) (hc : CtOk pg ct) {args : List V} {r : V} (ha : Nat.ble args.length 30 = true) (hr : r.noId = true) (h : exec ⟨pg, ct, ow, 30, anL []⟩ code ⟨argE args, hOf []⟩ (PostF pg.prog ad [.tmp 4] r [])) : PCall pg 79 args r := pcall_inF ad hc fol 79 n79 hb rfl e79 rfl (bodyOk_at o79 hb rfl) ha hr h
theorem n90 : Tryz.prog.funcs[90]? = some Tryz.f90 := by kernel_rfl
theorem e90 : entB Tryz.prog 90 = true := by kernel_rfl
theorem o90 : bodyOk (anL [(2, [0, 0, 2, 6, 14, 31, 63, 127, 0, 256, 769, 2047, 4095, 1793, 0, 16384, 49152, 124673, 255745, 524287, 1048575, 0, 2097152, 6301441, 16777215, 33554431, 0, 67108864, 216016641, 536870911, 1073741823, 0, 2147483648, 6926903041, 17179869183, 34359738367, 0, 68719476736, 221675267841, 549755813887, 1099511627775, 2199023255551])]) Tryz.f90 = true := by kernel_rfl
theorem w90 {ct : Ct} (ow : Nat → Bool) (ad : List Adj) {code : Code} (hb : Tryz.f90.body = some code) (hc : CtOk pg ct) {args : List V} {r : V} (ha : Nat.ble args.length 47 = true) (hr : r.noId = true) (h : exec ⟨pg, ct, ow, 47, anL [(2, [0, 0, 2, 6, 14, 31, 63, 127, 0, 256, 769, 2047, 4095, 1793, 0, 16384, 49152, 124673, 255745, 524287, 1048575, 0, 2097152, 6301441, 16777215, 33554431, 0, 67108864, 216016641, 536870911, 1073741823, 0, 2147483648, 6926903041, 17179869183, 34359738367, 0, 68719476736, 221675267841, 549755813887, 1099511627775, 2199023255551])]⟩ code ⟨argE args, hOf []⟩ (PostF pg.prog ad [.tmp 2] r [])) : PCall pg 90 args r := pcall_inF ad hc fol 90 n90 hb rfl e90 rfl (bodyOk_at o90 hb rfl) ha hr h
theorem n92 : Tryz.prog.funcs[92]? = some Tryz.f92 := by kernel_rfl
theorem e92 : entB Tryz.prog 92 = true := by kernel_rfl
theorem o92 : bodyOk (anL []) Tryz.f92 = true := by kernel_rfl
theorem w92 {ct : Ct} (ow : Nat → Bool) (ad : List Adj) {code : Code} (hb : Tryz.f92.body = some code) (hc : CtOk pg ct) {args : List V} {r : V} (ha : Nat.ble args.length 23 = true) (hr : r.noId = true) (h : exec ⟨pg, ct, ow, 23, anL []⟩ code ⟨argE args, hOf []⟩ (PostF pg.prog ad [.tmp 2] r [])) : PCall pg 92 args r := pcall_inF ad hc fol 92 n92 hb rfl e92 rfl (bodyOk_at o92 hb rfl) ha hr h
theorem n93 : Tryz.prog.funcs[93]? = some Tryz.f93 := by kernel_rfl
theorem e93 : entB Tryz.prog 93 = true := by kernel_rfl
theorem o93 : bodyOk (anL []) Tryz.f93 = true := by kernel_rfl
theorem w93 {ct : Ct} (ow : Nat → Bool) (ad : List Adj) {code : Code} (hb : Tryz.f93.body = some code) (hc : CtOk pg ct) {args : List V} {r : V} (ha : Nat.ble args.length 20 = true) (hr : r.noId = true) (h : exec ⟨pg, ct, ow, 20, anL []⟩ code ⟨argE args, hOf []⟩ (PostF pg.prog ad [.tmp 2] r [])) : PCall pg 93 args r := pcall_inF ad hc fol 93 n93 hb rfl e93 rfl (bodyOk_at o93 hb rfl) ha hr h
theorem n94 : Tryz.prog.funcs[94]? = some Tryz.f94 := by kernel_rfl
theorem e94 : entB Tryz.prog 94 = true := by kernel_rfl
theorem o94 : bodyOk (anL []) Tryz.f94 = true := by kernel_rfl
theorem w94 {ct : Ct} (ow : Nat → Bool) (ad : List Adj) {code : Code} (hb : Tryz.f94.body = some code) (hc : CtOk pg ct) {args : List V} {r : V} (ha : Nat.ble args.length 5 = true) (hr : r.noId = true) (h : exec ⟨pg, ct, ow, 5, anL []⟩ code ⟨argE args, hOf []⟩ (PostF pg.prog ad [.tmp 2] r [])) : PCall pg 94 args r := pcall_inF ad hc fol 94 n94 hb rfl e94 rfl (bodyOk_at o94 hb rfl) ha hr h
theorem n95 : Tryz.prog.funcs[95]? = some Tryz.f95 := by kernel_rfl
theorem e95 : entB Tryz.prog 95 = true := by kernel_rfl
theorem o95 : bodyOk (anL []) Tryz.f95 = true := by kernel_rfl
theorem w95 {ct : Ct} (ow : Nat → Bool) (ad : List Adj) {code : Code} (hb : Tryz.f95.body = some code) (hc : CtOk pg ct) {args : List V} {r : V} (ha : Nat.ble args.length 16 = true) (hr : r.noId = true) (h : exec ⟨pg, ct, ow, 16, anL []⟩ code ⟨argE args, hOf []⟩ (PostF pg.prog ad [.tmp 4] r [])) : PCall pg 95 args r := pcall_inF ad hc fol 95 n95 hb rfl e95 rfl (bodyOk_at o95 hb rfl) ha hr h
theorem n96 : Tryz.prog.funcs[96]? = some Tryz.f96 := by kernel_rfl
theorem e96 : entB Tryz.prog 96 = true := by kernel_rfl
theorem o96 : bodyOk (anL []) Tryz.f96 = true := by kernel_rfl
theorem w96 {ct : Ct} (ow : Nat → Bool) (ad : List Adj) {code : Code} (hb : Tryz.f96.body = some code) (hc : CtOk pg ct) {args : List V} {r : V} (ha : Nat.ble args.length 14 = true) (hr : r.noId = true) (h : exec ⟨pg, ct, ow, 14, anL []⟩ code ⟨argE args, hOf []⟩ (PostF pg.prog ad [.tmp 2] r [])) : PCall pg 96 args r := pcall_inF ad hc fol 96 n96 hb rfl e96 rfl (bodyOk_at o96 hb rfl) ha hr h
theorem n97 : Tryz.prog.funcs[97]? = some Tryz.f97 := by kernel_rfl
theorem e97 : entB Tryz.prog 97 = true := by kernel_rfl
theorem o97 : bodyOk (anL []) Tryz.f97 = true := by kernel_rfl
theorem w97 {ct : Ct} (ow : Nat → Bool) (ad : List Adj) {code : Code} (hb : Tryz.f97.body = some code) (hc : CtOk pg ct) {args : List V} {r : V} (ha : Nat.ble args.length 9 = true) (hr : r.noId = true) (h : exec ⟨pg, ct, ow, 9, anL []⟩ code ⟨argE args, hOf []⟩ (PostF pg.prog ad [.tmp 2] r [])) : PCall pg 97 args r := pcall_inF ad hc fol 97 n97 hb rfl e97 rfl (bodyOk_at o97 hb rfl) ha hr h
theorem n98 : Tryz.prog.funcs[98]? = some Tryz.f98 := by kernel_rfl
theorem e98 : entB Tryz.prog 98 = true := by kernel_rfl
theorem o98 : bodyOk (anL []) Tryz.f98 = true := by kernel_rfl
theorem w98 {ct : Ct} (ow : Nat → Bool) (ad : List Adj) {code : Code} (hb : Tryz.f98.body = some code) (hc : CtOk pg ct) {args : List V} {r : V} (ha : Nat.ble args.length 50 = true) (hr : r.noId = true) (h : exec ⟨pg, ct, ow, 50, anL []⟩ code ⟨argE args, hOf []⟩ (PostF pg.prog ad [.tmp 2] r [])) : PCall pg 98 args r := pcall_inF ad hc fol 98 n98 hb rfl e98 rfl (bodyOk_at o98 hb rfl) ha hr h
theorem n99 : Tryz.prog.funcs[99]? = some Tryz.f99 := by kernel_rfl
theorem e99 : entB Tryz.prog 99 = true := by kernel_rfl
theorem o99 : bodyOk (anL []) Tryz.f99 = true := by kernel_rfl
theorem w99 {ct : Ct} (ow : Nat → Bool) (ad : List Adj) {code : Code} (hb : Tryz.f99.body = some code) (hc : CtOk pg ct) {args : List V} {r : V} (ha : Nat.ble args.length 35 = true) (hr : r.noId = true) (h : exec ⟨pg, ct, ow, 35, anL []⟩ code ⟨argE args, hOf []⟩ (PostF pg.prog ad [.tmp 2] r [])) : PCall pg 99 args r := pcall_inF ad hc fol 99 n99 hb rfl e99 rfl (bodyOk_at o99 hb rfl) ha hr h
theorem n100 : Tryz.prog.funcs[100]? = some Tryz.f100 := by kernel_rfl
theorem e100 : entB Tryz.prog 100 = true := by kernel_rfl
theorem o100 : bodyOk (anL []) Tryz.f100 = true := by kernel_rfl
theorem w100 {ct : Ct} (ow : Nat → Bool) (ad : List Adj) {code : Code} (hb : Tryz.f100.body = some code) (hc : CtOk pg ct) {args : List V} {r : V} (ha : Nat.ble args.length 19 = true) (hr : r.noId = true) (h : exec ⟨pg, ct, ow, 19, anL []⟩ code ⟨argE args, hOf []⟩ (PostF pg.prog ad [.tmp 4] r [])) : PCall pg 100 args r := pcall_inF ad hc fol 100 n100 hb rfl e100 rfl (bodyOk_at o100 hb rfl) ha hr h
theorem n101 : Tryz.prog.funcs[101]? = some Tryz.f101 := by kernel_rfl
theorem e101 : entB Tryz.prog 101 = true := by kernel_rfl
theorem o101 : bodyOk (anL []) Tryz.f101 = true := by kernel_rfl
theorem w101 {ct : Ct} (ow : Nat → Bool) (ad : List Adj) {code : Code} (hb : Tryz.f101.body = some code) (hc : CtOk pg ct) {args : List V} {r : V} (ha : Nat.ble args.length 45 = true) (hr : r.noId = true) (h : exec ⟨pg, ct, ow, 45, anL []⟩ code ⟨argE args, hOf []⟩ (PostF pg.prog ad [.tmp 2] r [])) : PCall pg 101 args r := pcall_inF ad hc fol 101 n101 hb rfl e101 rfl (bodyOk_at o101 hb rfl) ha hr h
theorem n102 : Tryz.prog.funcs[102]? = some Tryz.f102 := by kernel_rfl
theorem e102 : entB Tryz.prog 102 = true := by kernel_rfl
theorem o102 : bodyOk (anL []) Tryz.f102 = true := by kernel_rfl
theorem w102 {ct : Ct} (ow : Nat → Bool) (ad : List Adj) {code : Code} (hb : Tryz.f102.body = some code) (hc : CtOk pg ct) {args : List V} {r : V} (ha : Nat.ble args.length 35 = true) (hr : r.noId = true) (h : exec ⟨pg, ct, ow, 35, anL []⟩ code ⟨argE args, hOf []⟩ (PostF pg.prog ad [.tmp 2] r [])) : PCall pg 102 args r := pcall_inF ad hc fol 102 n102 hb rfl e102 rfl (bodyOk_at o102 hb rfl) ha hr h
theorem n103 : Tryz.prog.funcs[103]? = some Tryz.f103 := by kernel_rfl
theorem e103 : entB Tryz.prog 103 = true := by kernel_rfl
theorem o103 : bodyOk (anL []) Tryz.f103 = true := by kernel_rfl
theorem w103 {ct : Ct} (ow : Nat → Bool) (ad : List Adj) {code : Code} (hb : Tryz.f103.body = some code) (hc : CtOk pg ct) {args : List V} {r : V} (ha : Nat.ble args.length 33 = true) (hr : r.noId = true) (h : exec ⟨pg, ct, ow, 33, anL []⟩ code ⟨argE args, hOf []⟩ (PostF pg.prog ad [.tmp 2] r [])) : PCall pg 103 args r := pcall_inF ad hc fol 103 n103 hb rfl e103 rfl (bodyOk_at o103 hb rfl) ha hr h
theorem n122 : Tryz.prog.funcs[122]? = some Tryz.f122 := by kernel_rfl
theorem e122 : entB Tryz.prog 122 = true := by kernel_rfl
theorem o122 : bodyOk (anL []) Tryz.f122 = true := by kernel_rfl
theorem w122 {ct : Ct} (ow : Nat → Bool) (ad : List Adj) {code : Code} (hb : Tryz.f122.body = some code) (hc : CtOk pg ct) {args : List V} {r : V} (ha : Nat.ble args.length 28 = true) (hr : r.noId = true) (h : exec ⟨pg, ct, ow, 28, anL []⟩ code ⟨argE args, hOf []⟩ (PostF pg.prog ad [.tmp 4] r [])) : PCall pg 122 args r := pcall_inF ad hc fol 122 n122 hb rfl e122 rfl (bodyOk_at o122 hb rfl) ha hr h
theorem n139 : Tryz.prog.funcs[139]? = some Tryz.f139 := by kernel_rfl
theorem e139 : entB Tryz.prog 139 = true := by kernel_rfl
theorem o139 : bodyOk (anL []) Tryz.f139 = true := by kernel_rfl
theorem w139 {ct : Ct} (ow : Nat → Bool) (ad : List Adj) {code : Code} (hb : Tryz.f139.body = some code) (hc : CtOk pg ct) {args : List V} {r : V} (ha : Nat.ble args.length 58 = true) (hr : r.noId = true) (h : exec ⟨pg, ct, ow, 58, anL []⟩ code ⟨argE args, hOf []⟩ (PostF pg.prog ad [.cell 2 153] r [])) : PCall pg 139 args r := pcall_inF ad hc fol 139 n139 hb rfl e139 rfl (bodyOk_at o139 hb rfl) ha hr h
theorem n140 : Tryz.prog.funcs[140]? = some Tryz.f140 := by kernel_rfl
theorem e140 : entB Tryz.prog 140 = true := by kernel_rfl
theorem o140 : bodyOk (anL []) Tryz.f140 = true := by kernel_rfl
theorem w140 {ct : Ct} (ow : Nat → Bool) (ad : List Adj) {code : Code} (hb : Tryz.f140.body = some code) (hc : CtOk pg ct) {args : List V} {r : V} (ha : Nat.ble args.length 2 = true) (hr : r.noId = true) (h : exec ⟨pg, ct, ow, 2, anL []⟩ code ⟨argE args, hOf []⟩ (PostF pg.prog ad [.tmp 0] r [])) : PCall pg 140 args r := pcall_inF ad hc fol 140 n140 hb rfl e140 rfl (bodyOk_at o140 hb rfl) ha hr h
theorem n141 : Tryz.prog.funcs[141]? = some Tryz.f141 := by kernel_rfl
theorem e141 : entB Tryz.prog 141 = true := by kernel_rfl
theorem o141 : bodyOk (anL []) Tryz.f141 = true := by kernel_rfl
theorem w141 {ct : Ct} (ow : Nat → Bool) (ad : List Adj) {code : Code} (hb : Tryz.f141.body = some code) (hc : CtOk pg ct) {args : List V} {r : V} (ha : Nat.ble args.length 16 = true) (hr : r.noId = true) (h : exec ⟨pg, ct, ow, 16, anL []⟩ code ⟨argE args, hOf []⟩ (PostF pg.prog ad [.tmp 4] r [])) : PCall pg 141 args r := pcall_inF ad hc fol 141 n141 hb rfl e141 rfl (bodyOk_at o141 hb rfl) ha hr h
theorem n142 : Tryz.prog.funcs[142]? = some Tryz.f142 := by kernel_rfl
theorem e142 : entB Tryz.prog 142 = true := by kernel_rfl
theorem o142 : bodyOk (anL []) Tryz.f142 = true := by kernel_rfl
theorem w142 {ct : Ct} (ow : Nat → Bool) (ad : List Adj) {code : Code} (hb : Tryz.f142.body = some code) (hc : CtOk pg ct) {args : List V} {r : V} (ha : Nat.ble args.length 2 = true) (hr : r.noId = true) (h : exec ⟨pg, ct, ow, 2, anL []⟩ code ⟨argE args, hOf []⟩ (PostF pg.prog ad [.tmp 0] r [])) : PCall pg 142 args r := pcall_inF ad hc fol 142 n142 hb rfl e142 rfl (bodyOk_at o142 hb rfl) ha hr h
theorem n144 : Tryz.prog.funcs[144]? = some Tryz.f144 := by kernel_rfl
theorem e144 : entB Tryz.prog 144 = true := by kernel_rfl
theorem o144 : bodyOk (anL []) Tryz.f144 = true := by kernel_rfl
theorem w144 {ct : Ct} (ow : Nat → Bool) (ad : List Adj) {code : Code} (hb : Tryz.f144.body = some code) (hc : CtOk pg ct) {args : List V} {r : V} (ha : Nat.ble args.length 16 = true) (hr : r.noId = true) (h : exec ⟨pg, ct, ow, 16, anL []⟩ code ⟨argE args, hOf []⟩ (PostF pg.prog ad [.tmp 2] r [])) : PCall pg 144 args r := pcall_inF ad hc fol 144 n144 hb rfl e144 rfl (bodyOk_at o144 hb rfl) ha hr h
theorem n145 : Tryz.prog.funcs[145]? = some Tryz.f145 := by kernel_rfl
theorem e145 : entB Tryz.prog 145 = true := by kernel_rfl
theorem o145 : bodyOk (anL []) Tryz.f145 = true := by kernel_rfl
theorem w145 {ct : Ct} (ow : Nat → Bool) (ad : List Adj) {code : Code} (hb : Tryz.f145.body = some code) (hc : CtOk pg ct) {args : List V} {r : V} (ha : Nat.ble args.length 8 = true) (hr : r.noId = true) (h : exec ⟨pg, ct, ow, 8, anL []⟩ code ⟨argE args, hOf []⟩ (PostF pg.prog ad [.tmp 4] r [])) : PCall pg 145 args r := pcall_inF ad hc fol 145 n145 hb rfl e145 rfl (bodyOk_at o145 hb rfl) ha hr h
theorem n146 : Tryz.prog.funcs[146]? = some Tryz.f146 := by kernel_rfl
theorem e146 : entB Tryz.prog 146 = true := by kernel_rfl
theorem o146 : bodyOk (anL []) Tryz.f146 = true := by kernel_rfl
theorem w146 {ct : Ct} (ow : Nat → Bool) (ad : List Adj) {code : Code} (hb : Tryz.f146.body = some code) (hc : CtOk pg ct) {args : List V} {r : V} (ha : Nat.ble args.length 5 = true) (hr : r.noId = true) (h : exec ⟨pg, ct, ow, 5, anL []⟩ code ⟨argE args, hOf []⟩ (PostF pg.prog ad [.tmp 2] r [])) : PCall pg 146 args r := pcall_inF ad hc fol 146 n146 hb rfl e146 rfl (bodyOk_at o146 hb rfl) ha hr h
theorem n147 : Tryz.prog.funcs[147]? = some Tryz.f147 := by kernel_rfl
theorem e147 : entB Tryz.prog 147 = true := by kernel_rfl
theorem o147 : bodyOk (anL []) Tryz.f147 = true := by kernel_rfl
theorem w147 {ct : Ct} (ow : Nat → Bool) (ad : List Adj) {code : Code} (hb : Tryz.f147.body = some code) (hc : CtOk pg ct) {args : List V} {r : V} (ha : Nat.ble args.length 15 = true) (hr : r.noId = true) (h : exec ⟨pg, ct, ow, 15, anL []⟩ code ⟨argE args, hOf []⟩ (PostF pg.prog ad [.tmp 6] r [])) : PCall pg 147 args r := pcall_inF ad hc fol 147 n147 hb rfl e147 rfl (bodyOk_at o147 hb rfl) ha hr h
theorem n163 : Tryz.prog.funcs[163]? = some Tryz.f163 := by kernel_rfl
theorem e163 : entB Tryz.prog 163 = true := by kernel_rfl
theorem o163 : bodyOk (anL []) Tryz.f163 = true := by kernel_rfl
theorem w163 {ct : Ct} (ow : Nat → Bool) (ad : List Adj) {code : Code} (hb : Tryz.f163.body = some code) (hc : CtOk pg ct) {args : List V} {r : V} (ha : Nat.ble args.length 33 = true) (hr : r.noId = true) (h : exec ⟨pg, ct, ow, 33, anL []⟩ code ⟨argE args, hOf []⟩ (PostF pg.prog ad [.tmp 4] r [])) : PCall pg 163 args r := pcall_inF ad hc fol 163 n163 hb rfl e163 rfl (bodyOk_at o163 hb rfl) ha hr h
theorem n169 : Tryz.prog.funcs[169]? = some Tryz.f169 := by kernel_rfl
theorem e169 : entB Tryz.prog 169 = true := by kernel_rfl
theorem o169 : bodyOk (anL []) Tryz.f169 = true := by kernel_rfl
theorem w169 {ct : Ct} (ow : Nat → Bool) (ad : List Adj) {code : Code} (hb : Tryz.f169.body = some code) (hc : CtOk pg ct) {args : List V} {r : V} (ha : Nat.ble args.length 8 = true) (hr : r.noId = true) (h : exec ⟨pg, ct, ow, 8, anL []⟩ code ⟨argE args, hOf []⟩ (PostF pg.prog ad [.tmp 4] r [])) : PCall pg 169 args r := pcall_inF ad hc fol 169 n169 hb rfl e169 rfl (bodyOk_at o169 hb rfl) ha hr h
theorem n182 : Tryz.prog.funcs[182]? = some Tryz.f182 := by kernel_rfl
theorem e182 : entB Tryz.prog 182 = true := by kernel_rfl
theorem o182 : bodyOk (anL []) Tryz.f182 = true := by kernel_rfl
theorem w182 {ct : Ct} (ow : Nat → Bool) (ad : List Adj) {code : Code} (hb : Tryz.f182.body = some code) (hc : CtOk pg ct) {args : List V} {r : V} (ha : Nat.ble args.length 26 = true) (hr : r.noId = true) (h : exec ⟨pg, ct, ow, 26, anL []⟩ code ⟨argE args, hOf []⟩ (PostF pg.prog ad [.tmp 4] r [])) : PCall pg 182 args r := pcall_inF ad hc fol 182 n182 hb rfl e182 rfl (bodyOk_at o182 hb rfl) ha hr h
end Go.Abs
