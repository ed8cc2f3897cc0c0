import Derived.Test.YtpamahgbkmcpoaaDoorAbsK2
import Derived.Test.YtpamahgbkmcpoaaDoorRows
import Derived.Lib.TrailingZeros
import Derived.Lib.ItoaNum
/- facts of this seat's program: its types and functions, by their numbers -/
namespace Go.Abs
open Go Go.Proofs
set_option maxRecDepth 100000
def tabs (w : World) : Prop := Lib.TabIs Tryd.prog w "internal/strconv.uint64pow10" .u64 Lib.pow10Tab ∧ Lib.TabIs Tryd.prog w "math/bits.deBruijn64tab" .u8 (Lib.deBruijn64tab.map fun (n : Nat) => (n : Int))
noncomputable def pg : PG := mkPG Tryd.prog 9 fun w => tabs w ∧ w.ShapedOpen Tryd.prog
theorem tabPow {w : World} (h : pg.ok w) : Lib.TabIs Tryd.prog w "internal/strconv.uint64pow10" .u64 Lib.pow10Tab := by
  obtain ⟨w0, ⟨h1, _⟩, h2⟩ := h
  exact tabIs_same (g := 6) (by kernel_rfl) (by decide) h2 h1.1
theorem tabDb64 {w : World} (h : pg.ok w) : Lib.TabIs Tryd.prog w "math/bits.deBruijn64tab" .u8 (Lib.deBruijn64tab.map fun (n : Nat) => (n : Int)) := by
  obtain ⟨w0, ⟨h1, _⟩, h2⟩ := h
  exact tabIs_same (g := 8) (by kernel_rfl) (by decide) h2 h1.2
theorem tabs_of {w : World} (l : List (String × DataW Unit)) (m0 : ("internal/strconv.uint64pow10", Lib.tabData .u64 Lib.pow10Tab) ∈ l) (m1 : ("math/bits.deBruijn64tab", Lib.tabData .u8 (Lib.deBruijn64tab.map fun (n : Nat) => (n : Int))) ∈ l) (h : laidMet Tryd.prog l w) : tabs w := ⟨laidMet_cells (g := 6) (t := 195) (e := 173) (n := 20) (by kernel_rfl) (by kernel_rfl) (by kernel_rfl) (by kernel_rfl) (by kernel_rfl) (by kernel_rfl) l m0 h, laidMet_cells (g := 8) (t := 200) (e := 5) (n := 64) (by kernel_rfl) (by kernel_rfl) (by kernel_rfl) (by kernel_rfl) (by kernel_rfl) (by kernel_rfl) l m1 h⟩

@[push_cast] theorem pg_prog : pg.prog = Tryd.prog := rfl
theorem fol : Tryd.prog.follows .mixedOrders = true := by kernel_rfl
@[push_cast] theorem t1 : ti Tryd.prog 1 = ⟨.func, 1, 8, some (.con .nilFunc)⟩ := by kernel_rfl
@[push_cast] theorem t2 : ti Tryd.prog 2 = ⟨(.int .i64), 1, 8, some (.int .i64 0)⟩ := by kernel_rfl
@[push_cast] theorem t3 : ti Tryd.prog 3 = ⟨(.int .i64), 1, 8, some (.int .i64 0)⟩ := by kernel_rfl
@[push_cast] theorem t4 : ti Tryd.prog 4 = ⟨.bool, 1, 1, some (.bool false)⟩ := by kernel_rfl
@[push_cast] theorem t5 : ti Tryd.prog 5 = ⟨(.int .u8), 1, 1, some (.int .u8 0)⟩ := by kernel_rfl
@[push_cast] theorem t6 : ti Tryd.prog 6 = ⟨(.int .u8), 1, 1, some (.int .u8 0)⟩ := by kernel_rfl
@[push_cast] theorem eq7 : EqOk Tryd.prog 7 = True := eq_true (eqOk_of (by kernel_rfl))
@[push_cast] theorem t7 : ti Tryd.prog 7 = ⟨(.struct [(0, 2), (1, 3), (2, 4), (3, 6)]), 4, 24, some (.agg [(.int .i64 0), (.int .i64 0), (.bool false), (.int .u8 0)])⟩ := by kernel_rfl
@[push_cast] theorem eq8 : EqOk Tryd.prog 8 = True := eq_true (eqOk_of (by kernel_rfl))
@[push_cast] theorem t8 : ti Tryd.prog 8 = ⟨(.struct [(0, 2), (1, 3), (2, 4), (3, 6)]), 4, 24, some (.agg [(.int .i64 0), (.int .i64 0), (.bool false), (.int .u8 0)])⟩ := by kernel_rfl
@[push_cast] theorem t9 : ti Tryd.prog 9 = ⟨.str, 1, 16, some (.str [])⟩ := by kernel_rfl
@[push_cast] theorem t10 : ti Tryd.prog 10 = ⟨.str, 1, 16, some (.str [])⟩ := by kernel_rfl
@[push_cast] theorem t11 : ti Tryd.prog 11 = ⟨.str, 1, 16, some (.str [])⟩ := by kernel_rfl
@[push_cast] theorem t12 : ti Tryd.prog 12 = ⟨(.int .u64), 1, 8, some (.int .u64 0)⟩ := by kernel_rfl
@[push_cast] theorem t13 : ti Tryd.prog 13 = ⟨(.struct [(0, 9), (1, 12)]), 2, 24, some (.agg [(.str []), (.int .u64 0)])⟩ := by kernel_rfl
@[push_cast] theorem t14 : ti Tryd.prog 14 = ⟨(.struct [(0, 9), (1, 12)]), 2, 24, some (.agg [(.str []), (.int .u64 0)])⟩ := by kernel_rfl
@[push_cast] theorem t15 : ti Tryd.prog 15 = ⟨(.ptr 202), 1, 8, some (.con (.pointer none))⟩ := by kernel_rfl
@[push_cast] theorem t16 : ti Tryd.prog 16 = ⟨(.ptr 205), 1, 8, some (.con (.pointer none))⟩ := by kernel_rfl
@[push_cast] theorem t17 : ti Tryd.prog 17 = ⟨(.ptr 212), 1, 8, some (.con (.pointer none))⟩ := by kernel_rfl
@[push_cast] theorem t18 : ti Tryd.prog 18 = ⟨(.struct [(0, 17)]), 1, 8, some (.agg [(.con (.pointer none))])⟩ := by kernel_rfl
@[push_cast] theorem t19 : ti Tryd.prog 19 = ⟨(.struct [(0, 17)]), 1, 8, some (.agg [(.con (.pointer none))])⟩ := by kernel_rfl
@[push_cast] theorem t20 : ti Tryd.prog 20 = ⟨.iface, 1, 16, some (.con .nilIface)⟩ := by kernel_rfl
@[push_cast] theorem t21 : ti Tryd.prog 21 = ⟨(.int .i32), 1, 4, some (.int .i32 0)⟩ := by kernel_rfl
@[push_cast] theorem t22 : ti Tryd.prog 22 = ⟨(.slice 66), 1, 24, some .nilsl⟩ := by kernel_rfl
@[push_cast] theorem t23 : ti Tryd.prog 23 = ⟨(.slice 5), 1, 24, some .nilsl⟩ := by kernel_rfl
@[push_cast] theorem t24 : ti Tryd.prog 24 = ⟨(.struct [(0, 3), (1, 9), (2, 22), (3, 23)]), 4, 72, some (.agg [(.int .i64 0), (.str []), .nilsl, .nilsl])⟩ := by kernel_rfl
@[push_cast] theorem t25 : ti Tryd.prog 25 = ⟨(.struct [(0, 3), (1, 9), (2, 22), (3, 23)]), 4, 72, some (.agg [(.int .i64 0), (.str []), .nilsl, .nilsl])⟩ := by kernel_rfl
@[push_cast] theorem t26 : ti Tryd.prog 26 = ⟨(.int .i64), 1, 8, some (.int .i64 0)⟩ := by kernel_rfl
@[push_cast] theorem t28 : ti Tryd.prog 28 = ⟨.func, 1, 8, some (.con .nilFunc)⟩ := by kernel_rfl
@[push_cast] theorem t29 : ti Tryd.prog 29 = ⟨.func, 1, 8, some (.con .nilFunc)⟩ := by kernel_rfl
@[push_cast] theorem t30 : ti Tryd.prog 30 = ⟨.func, 1, 8, some (.con .nilFunc)⟩ := by kernel_rfl
@[push_cast] theorem t31 : ti Tryd.prog 31 = ⟨(.slice 33), 1, 24, some .nilsl⟩ := by kernel_rfl
@[push_cast] theorem eq32 : EqOk Tryd.prog 32 = True := eq_true (eqOk_of (by kernel_rfl))
@[push_cast] theorem t32 : ti Tryd.prog 32 = ⟨(.struct [(0, 9), (1, 9), (2, 9), (3, 4), (4, 9), (5, 4), (6, 3), (7, 3)]), 8, 96, some (.agg [(.str []), (.str []), (.str []), (.bool false), (.str []), (.bool false), (.int .i64 0), (.int .i64 0)])⟩ := by kernel_rfl
@[push_cast] theorem eq33 : EqOk Tryd.prog 33 = True := eq_true (eqOk_of (by kernel_rfl))
@[push_cast] theorem t33 : ti Tryd.prog 33 = ⟨(.struct [(0, 9), (1, 9), (2, 9), (3, 4), (4, 9), (5, 4), (6, 3), (7, 3)]), 8, 96, some (.agg [(.str []), (.str []), (.str []), (.bool false), (.str []), (.bool false), (.int .i64 0), (.int .i64 0)])⟩ := by kernel_rfl
@[push_cast] theorem t35 : ti Tryd.prog 35 = ⟨.func, 1, 8, some (.con .nilFunc)⟩ := by kernel_rfl
@[push_cast] theorem t36 : ti Tryd.prog 36 = ⟨.func, 1, 8, some (.con .nilFunc)⟩ := by kernel_rfl
@[push_cast] theorem t37 : ti Tryd.prog 37 = ⟨.func, 1, 8, some (.con .nilFunc)⟩ := by kernel_rfl
@[push_cast] theorem t38 : ti Tryd.prog 38 = ⟨.func, 1, 8, some (.con .nilFunc)⟩ := by kernel_rfl
@[push_cast] theorem t39 : ti Tryd.prog 39 = ⟨(.slice 9), 1, 24, some .nilsl⟩ := by kernel_rfl
@[push_cast] theorem t41 : ti Tryd.prog 41 = ⟨.func, 1, 8, some (.con .nilFunc)⟩ := by kernel_rfl
@[push_cast] theorem eq42 : EqOk Tryd.prog 42 = True := eq_true (eqOk_of (by kernel_rfl))
@[push_cast] theorem t42 : ti Tryd.prog 42 = ⟨(.struct [(0, 9), (1, 9)]), 2, 32, some (.agg [(.str []), (.str [])])⟩ := by kernel_rfl
@[push_cast] theorem eq43 : EqOk Tryd.prog 43 = True := eq_true (eqOk_of (by kernel_rfl))
@[push_cast] theorem t43 : ti Tryd.prog 43 = ⟨(.struct [(0, 9), (1, 9)]), 2, 32, some (.agg [(.str []), (.str [])])⟩ := by kernel_rfl
@[push_cast] theorem t45 : ti Tryd.prog 45 = ⟨.func, 1, 8, some (.con .nilFunc)⟩ := by kernel_rfl
@[push_cast] theorem t46 : ti Tryd.prog 46 = ⟨.func, 1, 8, some (.con .nilFunc)⟩ := by kernel_rfl
@[push_cast] theorem t47 : ti Tryd.prog 47 = ⟨.func, 1, 8, some (.con .nilFunc)⟩ := by kernel_rfl
@[push_cast] theorem t48 : ti Tryd.prog 48 = ⟨.func, 1, 8, some (.con .nilFunc)⟩ := by kernel_rfl
@[push_cast] theorem t50 : ti Tryd.prog 50 = ⟨.func, 1, 8, some (.con .nilFunc)⟩ := by kernel_rfl
@[push_cast] theorem t52 : ti Tryd.prog 52 = ⟨.func, 1, 8, some (.con .nilFunc)⟩ := by kernel_rfl
@[push_cast] theorem t53 : ti Tryd.prog 53 = ⟨.func, 1, 8, some (.con .nilFunc)⟩ := by kernel_rfl
@[push_cast] theorem t54 : ti Tryd.prog 54 = ⟨.func, 1, 8, some (.con .nilFunc)⟩ := by kernel_rfl
@[push_cast] theorem t55 : ti Tryd.prog 55 = ⟨.func, 1, 8, some (.con .nilFunc)⟩ := by kernel_rfl
@[push_cast] theorem t56 : ti Tryd.prog 56 = ⟨.func, 1, 8, some (.con .nilFunc)⟩ := by kernel_rfl
@[push_cast] theorem t57 : ti Tryd.prog 57 = ⟨(.struct [(0, 9), (1, 9), (2, 22), (3, 23)]), 4, 80, some (.agg [(.str []), (.str []), .nilsl, .nilsl])⟩ := by kernel_rfl
@[push_cast] theorem t58 : ti Tryd.prog 58 = ⟨(.struct [(0, 9), (1, 9), (2, 22), (3, 23)]), 4, 80, some (.agg [(.str []), (.str []), .nilsl, .nilsl])⟩ := by kernel_rfl
@[push_cast] theorem t60 : ti Tryd.prog 60 = ⟨.func, 1, 8, some (.con .nilFunc)⟩ := by kernel_rfl
@[push_cast] theorem t61 : ti Tryd.prog 61 = ⟨.func, 1, 8, some (.con .nilFunc)⟩ := by kernel_rfl
@[push_cast] theorem t62 : ti Tryd.prog 62 = ⟨(.slice 25), 1, 24, some .nilsl⟩ := by kernel_rfl
@[push_cast] theorem t63 : ti Tryd.prog 63 = ⟨.func, 1, 8, some (.con .nilFunc)⟩ := by kernel_rfl
@[push_cast] theorem t64 : ti Tryd.prog 64 = ⟨.func, 1, 8, some (.con .nilFunc)⟩ := by kernel_rfl
@[push_cast] theorem eq65 : EqOk Tryd.prog 65 = True := eq_true (eqOk_of (by kernel_rfl))
@[push_cast] theorem t65 : ti Tryd.prog 65 = ⟨(.struct [(0, 9), (1, 9)]), 2, 32, some (.agg [(.str []), (.str [])])⟩ := by kernel_rfl
@[push_cast] theorem eq66 : EqOk Tryd.prog 66 = True := eq_true (eqOk_of (by kernel_rfl))
@[push_cast] theorem t66 : ti Tryd.prog 66 = ⟨(.struct [(0, 9), (1, 9)]), 2, 32, some (.agg [(.str []), (.str [])])⟩ := by kernel_rfl
@[push_cast] theorem t67 : ti Tryd.prog 67 = ⟨.func, 1, 8, some (.con .nilFunc)⟩ := by kernel_rfl
@[push_cast] theorem t68 : ti Tryd.prog 68 = ⟨.func, 1, 8, some (.con .nilFunc)⟩ := by kernel_rfl
@[push_cast] theorem t69 : ti Tryd.prog 69 = ⟨.func, 1, 8, some (.con .nilFunc)⟩ := by kernel_rfl
@[push_cast] theorem t70 : ti Tryd.prog 70 = ⟨.func, 1, 8, some (.con .nilFunc)⟩ := by kernel_rfl
@[push_cast] theorem t71 : ti Tryd.prog 71 = ⟨.func, 1, 8, some (.con .nilFunc)⟩ := by kernel_rfl
@[push_cast] theorem t72 : ti Tryd.prog 72 = ⟨.func, 1, 8, some (.con .nilFunc)⟩ := by kernel_rfl
@[push_cast] theorem t73 : ti Tryd.prog 73 = ⟨.func, 1, 8, some (.con .nilFunc)⟩ := by kernel_rfl
@[push_cast] theorem t74 : ti Tryd.prog 74 = ⟨.func, 1, 8, some (.con .nilFunc)⟩ := by kernel_rfl
@[push_cast] theorem t75 : ti Tryd.prog 75 = ⟨.func, 1, 8, some (.con .nilFunc)⟩ := by kernel_rfl
@[push_cast] theorem t76 : ti Tryd.prog 76 = ⟨.func, 1, 8, some (.con .nilFunc)⟩ := by kernel_rfl
@[push_cast] theorem t77 : ti Tryd.prog 77 = ⟨.func, 1, 8, some (.con .nilFunc)⟩ := by kernel_rfl
@[push_cast] theorem t78 : ti Tryd.prog 78 = ⟨.func, 1, 8, some (.con .nilFunc)⟩ := by kernel_rfl
@[push_cast] theorem t80 : ti Tryd.prog 80 = ⟨.func, 1, 8, some (.con .nilFunc)⟩ := by kernel_rfl
@[push_cast] theorem t81 : ti Tryd.prog 81 = ⟨.func, 1, 8, some (.con .nilFunc)⟩ := by kernel_rfl
@[push_cast] theorem t82 : ti Tryd.prog 82 = ⟨.func, 1, 8, some (.con .nilFunc)⟩ := by kernel_rfl
@[push_cast] theorem t83 : ti Tryd.prog 83 = ⟨.func, 1, 8, some (.con .nilFunc)⟩ := by kernel_rfl
@[push_cast] theorem t84 : ti Tryd.prog 84 = ⟨.func, 1, 8, some (.con .nilFunc)⟩ := by kernel_rfl
@[push_cast] theorem t86 : ti Tryd.prog 86 = ⟨.func, 1, 8, some (.con .nilFunc)⟩ := by kernel_rfl
@[push_cast] theorem t87 : ti Tryd.prog 87 = ⟨.func, 1, 8, some (.con .nilFunc)⟩ := by kernel_rfl
@[push_cast] theorem t89 : ti Tryd.prog 89 = ⟨.func, 1, 8, some (.con .nilFunc)⟩ := by kernel_rfl
@[push_cast] theorem t90 : ti Tryd.prog 90 = ⟨(.arr 5 3), 5, 40, some (.agg [(.int .i64 0), (.int .i64 0), (.int .i64 0), (.int .i64 0), (.int .i64 0)])⟩ := by kernel_rfl
@[push_cast] theorem t91 : ti Tryd.prog 91 = ⟨(.slice 3), 1, 24, some .nilsl⟩ := by kernel_rfl
@[push_cast] theorem t92 : ti Tryd.prog 92 = ⟨.func, 1, 8, some (.con .nilFunc)⟩ := by kernel_rfl
@[push_cast] theorem t93 : ti Tryd.prog 93 = ⟨.func, 1, 8, some (.con .nilFunc)⟩ := by kernel_rfl
@[push_cast] theorem t94 : ti Tryd.prog 94 = ⟨.func, 1, 8, some (.con .nilFunc)⟩ := by kernel_rfl
@[push_cast] theorem t95 : ti Tryd.prog 95 = ⟨(.ptr 97), 1, 8, some (.con (.pointer none))⟩ := by kernel_rfl
@[push_cast] theorem t96 : ti Tryd.prog 96 = ⟨(.struct [(0, 95), (1, 23)]), 2, 32, some (.agg [(.con (.pointer none)), .nilsl])⟩ := by kernel_rfl
@[push_cast] theorem t97 : ti Tryd.prog 97 = ⟨(.struct [(0, 95), (1, 23)]), 2, 32, some (.agg [(.con (.pointer none)), .nilsl])⟩ := by kernel_rfl
@[push_cast] theorem t98 : ti Tryd.prog 98 = ⟨.func, 1, 8, some (.con .nilFunc)⟩ := by kernel_rfl
@[push_cast] theorem t99 : ti Tryd.prog 99 = ⟨.iface, 1, 16, some (.con .nilIface)⟩ := by kernel_rfl
@[push_cast] theorem t100 : ti Tryd.prog 100 = ⟨.iface, 1, 16, some (.con .nilIface)⟩ := by kernel_rfl
@[push_cast] theorem t102 : ti Tryd.prog 102 = ⟨.func, 1, 8, some (.con .nilFunc)⟩ := by kernel_rfl
@[push_cast] theorem t103 : ti Tryd.prog 103 = ⟨.func, 1, 8, some (.con .nilFunc)⟩ := by kernel_rfl
@[push_cast] theorem t104 : ti Tryd.prog 104 = ⟨.func, 1, 8, some (.con .nilFunc)⟩ := by kernel_rfl
@[push_cast] theorem t105 : ti Tryd.prog 105 = ⟨.func, 1, 8, some (.con .nilFunc)⟩ := by kernel_rfl
@[push_cast] theorem t106 : ti Tryd.prog 106 = ⟨.func, 1, 8, some (.con .nilFunc)⟩ := by kernel_rfl
@[push_cast] theorem t107 : ti Tryd.prog 107 = ⟨.func, 1, 8, some (.con .nilFunc)⟩ := by kernel_rfl
@[push_cast] theorem t108 : ti Tryd.prog 108 = ⟨.func, 1, 8, some (.con .nilFunc)⟩ := by kernel_rfl
@[push_cast] theorem t109 : ti Tryd.prog 109 = ⟨.func, 1, 8, some (.con .nilFunc)⟩ := by kernel_rfl
@[push_cast] theorem t110 : ti Tryd.prog 110 = ⟨.func, 1, 8, some (.con .nilFunc)⟩ := by kernel_rfl
@[push_cast] theorem t111 : ti Tryd.prog 111 = ⟨.func, 1, 8, some (.con .nilFunc)⟩ := by kernel_rfl
@[push_cast] theorem t112 : ti Tryd.prog 112 = ⟨.func, 1, 8, some (.con .nilFunc)⟩ := by kernel_rfl
@[push_cast] theorem t113 : ti Tryd.prog 113 = ⟨.func, 1, 8, some (.con .nilFunc)⟩ := by kernel_rfl
@[push_cast] theorem t114 : ti Tryd.prog 114 = ⟨.func, 1, 8, some (.con .nilFunc)⟩ := by kernel_rfl
@[push_cast] theorem t115 : ti Tryd.prog 115 = ⟨(.arr 256 4), 256, 256, some (.agg [(.bool false), (.bool false), (.bool false), (.bool false), (.bool false), (.bool false), (.bool false), (.bool false), (.bool false), (.bool false), (.bool false), (.bool false), (.bool false), (.bool false), (.bool false), (.bool false), (.bool false), (.bool false), (.bool false), (.bool false), (.bool false), (.bool false), (.bool false), (.bool false), (.bool false), (.bool false), (.bool false), (.bool false), (.bool false), (.bool false), (.bool false), (.bool false), (.bool false), (.bool false), (.bool false), (.bool false), (.bool false), (.bool false), (.bool false), (.bool false), (.bool false), (.bool false), (.bool false), (.bool false), (.bool false), (.bool false), (.bool false), (.bool false), (.bool false), (.bool false), (.bool false), (.bool false), (.bool false), (.bool false), (.bool false), (.bool false), (.bool false), (.bool false), (.bool false), (.bool false), (.bool false), (.bool false), (.bool false), (.bool false), (.bool false), (.bool false), (.bool false), (.bool false), (.bool false), (.bool false), (.bool false), (.bool false), (.bool false), (.bool false), (.bool false), (.bool false), (.bool false), (.bool false), (.bool false), (.bool false), (.bool false), (.bool false), (.bool false), (.bool false), (.bool false), (.bool false), (.bool false), (.bool false), (.bool false), (.bool false), (.bool false), (.bool false), (.bool false), (.bool false), (.bool false), (.bool false), (.bool false), (.bool false), (.bool false), (.bool false), (.bool false), (.bool false), (.bool false), (.bool false), (.bool false), (.bool false), (.bool false), (.bool false), (.bool false), (.bool false), (.bool false), (.bool false), (.bool false), (.bool false), (.bool false), (.bool false), (.bool false), (.bool false), (.bool false), (.bool false), (.bool false), (.bool false), (.bool false), (.bool false), (.bool false), (.bool false), (.bool false), (.bool false), (.bool false), (.bool false), (.bool false), (.bool false), (.bool false), (.bool false), (.bool false), (.bool false), (.bool false), (.bool false), (.bool false), (.bool false), (.bool false), (.bool false), (.bool false), (.bool false), (.bool false), (.bool false), (.bool false), (.bool false), (.bool false), (.bool false), (.bool false), (.bool false), (.bool false), (.bool false), (.bool false), (.bool false), (.bool false), (.bool false), (.bool false), (.bool false), (.bool false), (.bool false), (.bool false), (.bool false), (.bool false), (.bool false), (.bool false), (.bool false), (.bool false), (.bool false), (.bool false), (.bool false), (.bool false), (.bool false), (.bool false), (.bool false), (.bool false), (.bool false), (.bool false), (.bool false), (.bool false), (.bool false), (.bool false), (.bool false), (.bool false), (.bool false), (.bool false), (.bool false), (.bool false), (.bool false), (.bool false), (.bool false), (.bool false), (.bool false), (.bool false), (.bool false), (.bool false), (.bool false), (.bool false), (.bool false), (.bool false), (.bool false), (.bool false), (.bool false), (.bool false), (.bool false), (.bool false), (.bool false), (.bool false), (.bool false), (.bool false), (.bool false), (.bool false), (.bool false), (.bool false), (.bool false), (.bool false), (.bool false), (.bool false), (.bool false), (.bool false), (.bool false), (.bool false), (.bool false), (.bool false), (.bool false), (.bool false), (.bool false), (.bool false), (.bool false), (.bool false), (.bool false), (.bool false), (.bool false), (.bool false), (.bool false), (.bool false), (.bool false), (.bool false), (.bool false), (.bool false), (.bool false), (.bool false), (.bool false), (.bool false), (.bool false), (.bool false), (.bool false), (.bool false), (.bool false), (.bool false), (.bool false), (.bool false), (.bool false), (.bool false), (.bool false)])⟩ := by kernel_rfl
@[push_cast] theorem t116 : ti Tryd.prog 116 = ⟨(.arr 256 4), 256, 256, some (.agg [(.bool false), (.bool false), (.bool false), (.bool false), (.bool false), (.bool false), (.bool false), (.bool false), (.bool false), (.bool false), (.bool false), (.bool false), (.bool false), (.bool false), (.bool false), (.bool false), (.bool false), (.bool false), (.bool false), (.bool false), (.bool false), (.bool false), (.bool false), (.bool false), (.bool false), (.bool false), (.bool false), (.bool false), (.bool false), (.bool false), (.bool false), (.bool false), (.bool false), (.bool false), (.bool false), (.bool false), (.bool false), (.bool false), (.bool false), (.bool false), (.bool false), (.bool false), (.bool false), (.bool false), (.bool false), (.bool false), (.bool false), (.bool false), (.bool false), (.bool false), (.bool false), (.bool false), (.bool false), (.bool false), (.bool false), (.bool false), (.bool false), (.bool false), (.bool false), (.bool false), (.bool false), (.bool false), (.bool false), (.bool false), (.bool false), (.bool false), (.bool false), (.bool false), (.bool false), (.bool false), (.bool false), (.bool false), (.bool false), (.bool false), (.bool false), (.bool false), (.bool false), (.bool false), (.bool false), (.bool false), (.bool false), (.bool false), (.bool false), (.bool false), (.bool false), (.bool false), (.bool false), (.bool false), (.bool false), (.bool false), (.bool false), (.bool false), (.bool false), (.bool false), (.bool false), (.bool false), (.bool false), (.bool false), (.bool false), (.bool false), (.bool false), (.bool false), (.bool false), (.bool false), (.bool false), (.bool false), (.bool false), (.bool false), (.bool false), (.bool false), (.bool false), (.bool false), (.bool false), (.bool false), (.bool false), (.bool false), (.bool false), (.bool false), (.bool false), (.bool false), (.bool false), (.bool false), (.bool false), (.bool false), (.bool false), (.bool false), (.bool false), (.bool false), (.bool false), (.bool false), (.bool false), (.bool false), (.bool false), (.bool false), (.bool false), (.bool false), (.bool false), (.bool false), (.bool false), (.bool false), (.bool false), (.bool false), (.bool false), (.bool false), (.bool false), (.bool false), (.bool false), (.bool false), (.bool false), (.bool false), (.bool false), (.bool false), (.bool false), (.bool false), (.bool false), (.bool false), (.bool false), (.bool false), (.bool false), (.bool false), (.bool false), (.bool false), (.bool false), (.bool false), (.bool false), (.bool false), (.bool false), (.bool false), (.bool false), (.bool false), (.bool false), (.bool false), (.bool false), (.bool false), (.bool false), (.bool false), (.bool false), (.bool false), (.bool false), (.bool false), (.bool false), (.bool false), (.bool false), (.bool false), (.bool false), (.bool false), (.bool false), (.bool false), (.bool false), (.bool false), (.bool false), (.bool false), (.bool false), (.bool false), (.bool false), (.bool false), (.bool false), (.bool false), (.bool false), (.bool false), (.bool false), (.bool false), (.bool false), (.bool false), (.bool false), (.bool false), (.bool false), (.bool false), (.bool false), (.bool false), (.bool false), (.bool false), (.bool false), (.bool false), (.bool false), (.bool false), (.bool false), (.bool false), (.bool false), (.bool false), (.bool false), (.bool false), (.bool false), (.bool false), (.bool false), (.bool false), (.bool false), (.bool false), (.bool false), (.bool false), (.bool false), (.bool false), (.bool false), (.bool false), (.bool false), (.bool false), (.bool false), (.bool false), (.bool false), (.bool false), (.bool false), (.bool false), (.bool false), (.bool false), (.bool false), (.bool false), (.bool false), (.bool false), (.bool false), (.bool false), (.bool false), (.bool false), (.bool false), (.bool false), (.bool false), (.bool false)])⟩ := by kernel_rfl
@[push_cast] theorem t118 : ti Tryd.prog 118 = ⟨.func, 1, 8, some (.con .nilFunc)⟩ := by kernel_rfl
@[push_cast] theorem t119 : ti Tryd.prog 119 = ⟨.func, 1, 8, some (.con .nilFunc)⟩ := by kernel_rfl
@[push_cast] theorem t120 : ti Tryd.prog 120 = ⟨(.ptr 116), 1, 8, some (.con (.pointer none))⟩ := by kernel_rfl
@[push_cast] theorem eq121 : EqOk Tryd.prog 121 = True := eq_true (eqOk_of (by kernel_rfl))
@[push_cast] theorem t121 : ti Tryd.prog 121 = ⟨(.struct [(0, 3), (1, 3), (2, 3), (3, 3), (4, 3), (5, 3)]), 6, 48, some (.agg [(.int .i64 0), (.int .i64 0), (.int .i64 0), (.int .i64 0), (.int .i64 0), (.int .i64 0)])⟩ := by kernel_rfl
@[push_cast] theorem eq122 : EqOk Tryd.prog 122 = True := eq_true (eqOk_of (by kernel_rfl))
@[push_cast] theorem t122 : ti Tryd.prog 122 = ⟨(.struct [(0, 3), (1, 3), (2, 3), (3, 3), (4, 3), (5, 3)]), 6, 48, some (.agg [(.int .i64 0), (.int .i64 0), (.int .i64 0), (.int .i64 0), (.int .i64 0), (.int .i64 0)])⟩ := by kernel_rfl
@[push_cast] theorem t123 : ti Tryd.prog 123 = ⟨.func, 1, 8, some (.con .nilFunc)⟩ := by kernel_rfl
@[push_cast] theorem t124 : ti Tryd.prog 124 = ⟨.func, 1, 8, some (.con .nilFunc)⟩ := by kernel_rfl
@[push_cast] theorem t125 : ti Tryd.prog 125 = ⟨.func, 1, 8, some (.con .nilFunc)⟩ := by kernel_rfl
@[push_cast] theorem t126 : ti Tryd.prog 126 = ⟨.func, 1, 8, some (.con .nilFunc)⟩ := by kernel_rfl
@[push_cast] theorem t127 : ti Tryd.prog 127 = ⟨(.ptr 5), 1, 8, some (.con (.pointer none))⟩ := by kernel_rfl
@[push_cast] theorem t129 : ti Tryd.prog 129 = ⟨.func, 1, 8, some (.con .nilFunc)⟩ := by kernel_rfl
@[push_cast] theorem t130 : ti Tryd.prog 130 = ⟨.func, 1, 8, some (.con .nilFunc)⟩ := by kernel_rfl
@[push_cast] theorem t131 : ti Tryd.prog 131 = ⟨.func, 1, 8, some (.con .nilFunc)⟩ := by kernel_rfl
@[push_cast] theorem t132 : ti Tryd.prog 132 = ⟨.func, 1, 8, some (.con .nilFunc)⟩ := by kernel_rfl
@[push_cast] theorem t133 : ti Tryd.prog 133 = ⟨.func, 1, 8, some (.con .nilFunc)⟩ := by kernel_rfl
@[push_cast] theorem t134 : ti Tryd.prog 134 = ⟨.func, 1, 8, some (.con .nilFunc)⟩ := by kernel_rfl
@[push_cast] theorem t135 : ti Tryd.prog 135 = ⟨.func, 1, 8, some (.con .nilFunc)⟩ := by kernel_rfl
@[push_cast] theorem t136 : ti Tryd.prog 136 = ⟨.func, 1, 8, some (.con .nilFunc)⟩ := by kernel_rfl
@[push_cast] theorem t137 : ti Tryd.prog 137 = ⟨.func, 1, 8, some (.con .nilFunc)⟩ := by kernel_rfl
@[push_cast] theorem t138 : ti Tryd.prog 138 = ⟨.func, 1, 8, some (.con .nilFunc)⟩ := by kernel_rfl
@[push_cast] theorem t139 : ti Tryd.prog 139 = ⟨.func, 1, 8, some (.con .nilFunc)⟩ := by kernel_rfl
@[push_cast] theorem t140 : ti Tryd.prog 140 = ⟨.other, 1, 8, some (.con (.pointer none))⟩ := by kernel_rfl
@[push_cast] theorem t141 : ti Tryd.prog 141 = ⟨.func, 1, 8, some (.con .nilFunc)⟩ := by kernel_rfl
@[push_cast] theorem t142 : ti Tryd.prog 142 = ⟨.func, 1, 8, some (.con .nilFunc)⟩ := by kernel_rfl
@[push_cast] theorem t143 : ti Tryd.prog 143 = ⟨.func, 1, 8, some (.con .nilFunc)⟩ := by kernel_rfl
@[push_cast] theorem t145 : ti Tryd.prog 145 = ⟨.func, 1, 8, some (.con .nilFunc)⟩ := by kernel_rfl
@[push_cast] theorem t146 : ti Tryd.prog 146 = ⟨(.slice 184), 1, 24, some .nilsl⟩ := by kernel_rfl
@[push_cast] theorem t147 : ti Tryd.prog 147 = ⟨.func, 1, 8, some (.con .nilFunc)⟩ := by kernel_rfl
@[push_cast] theorem t148 : ti Tryd.prog 148 = ⟨.func, 1, 8, some (.con .nilFunc)⟩ := by kernel_rfl
@[push_cast] theorem t149 : ti Tryd.prog 149 = ⟨.func, 1, 8, some (.con .nilFunc)⟩ := by kernel_rfl
@[push_cast] theorem t150 : ti Tryd.prog 150 = ⟨(.int .u64), 1, 8, some (.int .u64 0)⟩ := by kernel_rfl
@[push_cast] theorem t151 : ti Tryd.prog 151 = ⟨.func, 1, 8, some (.con .nilFunc)⟩ := by kernel_rfl
@[push_cast] theorem t153 : ti Tryd.prog 153 = ⟨.func, 1, 8, some (.con .nilFunc)⟩ := by kernel_rfl
@[push_cast] theorem t154 : ti Tryd.prog 154 = ⟨(.int .i64), 1, 8, some (.int .i64 0)⟩ := by kernel_rfl
@[push_cast] theorem t156 : ti Tryd.prog 156 = ⟨.func, 1, 8, some (.con .nilFunc)⟩ := by kernel_rfl
@[push_cast] theorem t157 : ti Tryd.prog 157 = ⟨(.ptr 179), 1, 8, some (.con (.pointer none))⟩ := by kernel_rfl
@[push_cast] theorem t158 : ti Tryd.prog 158 = ⟨.func, 1, 8, some (.con .nilFunc)⟩ := by kernel_rfl
@[push_cast] theorem t159 : ti Tryd.prog 159 = ⟨.func, 1, 8, some (.con .nilFunc)⟩ := by kernel_rfl
@[push_cast] theorem t160 : ti Tryd.prog 160 = ⟨(.arr 256 5), 256, 256, some (.agg [(.int .u8 0), (.int .u8 0), (.int .u8 0), (.int .u8 0), (.int .u8 0), (.int .u8 0), (.int .u8 0), (.int .u8 0), (.int .u8 0), (.int .u8 0), (.int .u8 0), (.int .u8 0), (.int .u8 0), (.int .u8 0), (.int .u8 0), (.int .u8 0), (.int .u8 0), (.int .u8 0), (.int .u8 0), (.int .u8 0), (.int .u8 0), (.int .u8 0), (.int .u8 0), (.int .u8 0), (.int .u8 0), (.int .u8 0), (.int .u8 0), (.int .u8 0), (.int .u8 0), (.int .u8 0), (.int .u8 0), (.int .u8 0), (.int .u8 0), (.int .u8 0), (.int .u8 0), (.int .u8 0), (.int .u8 0), (.int .u8 0), (.int .u8 0), (.int .u8 0), (.int .u8 0), (.int .u8 0), (.int .u8 0), (.int .u8 0), (.int .u8 0), (.int .u8 0), (.int .u8 0), (.int .u8 0), (.int .u8 0), (.int .u8 0), (.int .u8 0), (.int .u8 0), (.int .u8 0), (.int .u8 0), (.int .u8 0), (.int .u8 0), (.int .u8 0), (.int .u8 0), (.int .u8 0), (.int .u8 0), (.int .u8 0), (.int .u8 0), (.int .u8 0), (.int .u8 0), (.int .u8 0), (.int .u8 0), (.int .u8 0), (.int .u8 0), (.int .u8 0), (.int .u8 0), (.int .u8 0), (.int .u8 0), (.int .u8 0), (.int .u8 0), (.int .u8 0), (.int .u8 0), (.int .u8 0), (.int .u8 0), (.int .u8 0), (.int .u8 0), (.int .u8 0), (.int .u8 0), (.int .u8 0), (.int .u8 0), (.int .u8 0), (.int .u8 0), (.int .u8 0), (.int .u8 0), (.int .u8 0), (.int .u8 0), (.int .u8 0), (.int .u8 0), (.int .u8 0), (.int .u8 0), (.int .u8 0), (.int .u8 0), (.int .u8 0), (.int .u8 0), (.int .u8 0), (.int .u8 0), (.int .u8 0), (.int .u8 0), (.int .u8 0), (.int .u8 0), (.int .u8 0), (.int .u8 0), (.int .u8 0), (.int .u8 0), (.int .u8 0), (.int .u8 0), (.int .u8 0), (.int .u8 0), (.int .u8 0), (.int .u8 0), (.int .u8 0), (.int .u8 0), (.int .u8 0), (.int .u8 0), (.int .u8 0), (.int .u8 0), (.int .u8 0), (.int .u8 0), (.int .u8 0), (.int .u8 0), (.int .u8 0), (.int .u8 0), (.int .u8 0), (.int .u8 0), (.int .u8 0), (.int .u8 0), (.int .u8 0), (.int .u8 0), (.int .u8 0), (.int .u8 0), (.int .u8 0), (.int .u8 0), (.int .u8 0), (.int .u8 0), (.int .u8 0), (.int .u8 0), (.int .u8 0), (.int .u8 0), (.int .u8 0), (.int .u8 0), (.int .u8 0), (.int .u8 0), (.int .u8 0), (.int .u8 0), (.int .u8 0), (.int .u8 0), (.int .u8 0), (.int .u8 0), (.int .u8 0), (.int .u8 0), (.int .u8 0), (.int .u8 0), (.int .u8 0), (.int .u8 0), (.int .u8 0), (.int .u8 0), (.int .u8 0), (.int .u8 0), (.int .u8 0), (.int .u8 0), (.int .u8 0), (.int .u8 0), (.int .u8 0), (.int .u8 0), (.int .u8 0), (.int .u8 0), (.int .u8 0), (.int .u8 0), (.int .u8 0), (.int .u8 0), (.int .u8 0), (.int .u8 0), (.int .u8 0), (.int .u8 0), (.int .u8 0), (.int .u8 0), (.int .u8 0), (.int .u8 0), (.int .u8 0), (.int .u8 0), (.int .u8 0), (.int .u8 0), (.int .u8 0), (.int .u8 0), (.int .u8 0), (.int .u8 0), (.int .u8 0), (.int .u8 0), (.int .u8 0), (.int .u8 0), (.int .u8 0), (.int .u8 0), (.int .u8 0), (.int .u8 0), (.int .u8 0), (.int .u8 0), (.int .u8 0), (.int .u8 0), (.int .u8 0), (.int .u8 0), (.int .u8 0), (.int .u8 0), (.int .u8 0), (.int .u8 0), (.int .u8 0), (.int .u8 0), (.int .u8 0), (.int .u8 0), (.int .u8 0), (.int .u8 0), (.int .u8 0), (.int .u8 0), (.int .u8 0), (.int .u8 0), (.int .u8 0), (.int .u8 0), (.int .u8 0), (.int .u8 0), (.int .u8 0), (.int .u8 0), (.int .u8 0), (.int .u8 0), (.int .u8 0), (.int .u8 0), (.int .u8 0), (.int .u8 0), (.int .u8 0), (.int .u8 0), (.int .u8 0), (.int .u8 0), (.int .u8 0), (.int .u8 0), (.int .u8 0), (.int .u8 0), (.int .u8 0), (.int .u8 0), (.int .u8 0), (.int .u8 0), (.int .u8 0), (.int .u8 0), (.int .u8 0), (.int .u8 0), (.int .u8 0), (.int .u8 0), (.int .u8 0), (.int .u8 0), (.int .u8 0), (.int .u8 0), (.int .u8 0), (.int .u8 0), (.int .u8 0), (.int .u8 0)])⟩ := by kernel_rfl
@[push_cast] theorem eq161 : EqOk Tryd.prog 161 = True := eq_true (eqOk_of (by kernel_rfl))
@[push_cast] theorem t161 : ti Tryd.prog 161 = ⟨(.struct [(0, 5), (1, 5)]), 2, 2, some (.agg [(.int .u8 0), (.int .u8 0)])⟩ := by kernel_rfl
@[push_cast] theorem eq162 : EqOk Tryd.prog 162 = True := eq_true (eqOk_of (by kernel_rfl))
@[push_cast] theorem t162 : ti Tryd.prog 162 = ⟨(.struct [(0, 5), (1, 5)]), 2, 2, some (.agg [(.int .u8 0), (.int .u8 0)])⟩ := by kernel_rfl
@[push_cast] theorem t163 : ti Tryd.prog 163 = ⟨(.arr 16 162), 32, 32, some (.agg [(.int .u8 0), (.int .u8 0), (.int .u8 0), (.int .u8 0), (.int .u8 0), (.int .u8 0), (.int .u8 0), (.int .u8 0), (.int .u8 0), (.int .u8 0), (.int .u8 0), (.int .u8 0), (.int .u8 0), (.int .u8 0), (.int .u8 0), (.int .u8 0), (.int .u8 0), (.int .u8 0), (.int .u8 0), (.int .u8 0), (.int .u8 0), (.int .u8 0), (.int .u8 0), (.int .u8 0), (.int .u8 0), (.int .u8 0), (.int .u8 0), (.int .u8 0), (.int .u8 0), (.int .u8 0), (.int .u8 0), (.int .u8 0)])⟩ := by kernel_rfl
@[push_cast] theorem t164 : ti Tryd.prog 164 = ⟨(.int .u32), 1, 4, some (.int .u32 0)⟩ := by kernel_rfl
@[push_cast] theorem t165 : ti Tryd.prog 165 = ⟨(.ptr 184), 1, 8, some (.con (.pointer none))⟩ := by kernel_rfl
@[push_cast] theorem t166 : ti Tryd.prog 166 = ⟨.func, 1, 8, some (.con .nilFunc)⟩ := by kernel_rfl
@[push_cast] theorem t167 : ti Tryd.prog 167 = ⟨.func, 1, 8, some (.con .nilFunc)⟩ := by kernel_rfl
@[push_cast] theorem t168 : ti Tryd.prog 168 = ⟨.func, 1, 8, some (.con .nilFunc)⟩ := by kernel_rfl
@[push_cast] theorem t170 : ti Tryd.prog 170 = ⟨.func, 1, 8, some (.con .nilFunc)⟩ := by kernel_rfl
@[push_cast] theorem t171 : ti Tryd.prog 171 = ⟨.func, 1, 8, some (.con .nilFunc)⟩ := by kernel_rfl
@[push_cast] theorem t172 : ti Tryd.prog 172 = ⟨.func, 1, 8, some (.con .nilFunc)⟩ := by kernel_rfl
@[push_cast] theorem t173 : ti Tryd.prog 173 = ⟨(.int .u64), 1, 8, some (.int .u64 0)⟩ := by kernel_rfl
@[push_cast] theorem t175 : ti Tryd.prog 175 = ⟨.func, 1, 8, some (.con .nilFunc)⟩ := by kernel_rfl
@[push_cast] theorem t177 : ti Tryd.prog 177 = ⟨.func, 1, 8, some (.con .nilFunc)⟩ := by kernel_rfl
@[push_cast] theorem t178 : ti Tryd.prog 178 = ⟨(.struct [(0, 9), (1, 9), (2, 100)]), 3, 48, some (.agg [(.str []), (.str []), (.con .nilIface)])⟩ := by kernel_rfl
@[push_cast] theorem t179 : ti Tryd.prog 179 = ⟨(.struct [(0, 9), (1, 9), (2, 100)]), 3, 48, some (.agg [(.str []), (.str []), (.con .nilIface)])⟩ := by kernel_rfl
@[push_cast] theorem t180 : ti Tryd.prog 180 = ⟨.func, 1, 8, some (.con .nilFunc)⟩ := by kernel_rfl
@[push_cast] theorem t181 : ti Tryd.prog 181 = ⟨(.arr 3 21), 3, 12, some (.agg [(.int .i32 0), (.int .i32 0), (.int .i32 0)])⟩ := by kernel_rfl
@[push_cast] theorem t182 : ti Tryd.prog 182 = ⟨(.arr 3 21), 3, 12, some (.agg [(.int .i32 0), (.int .i32 0), (.int .i32 0)])⟩ := by kernel_rfl
@[push_cast] theorem t183 : ti Tryd.prog 183 = ⟨(.struct [(0, 164), (1, 164), (2, 182)]), 5, 20, some (.agg [(.int .u32 0), (.int .u32 0), (.int .i32 0), (.int .i32 0), (.int .i32 0)])⟩ := by kernel_rfl
@[push_cast] theorem t184 : ti Tryd.prog 184 = ⟨(.struct [(0, 164), (1, 164), (2, 182)]), 5, 20, some (.agg [(.int .u32 0), (.int .u32 0), (.int .i32 0), (.int .i32 0), (.int .i32 0)])⟩ := by kernel_rfl
@[push_cast] theorem t185 : ti Tryd.prog 185 = ⟨(.arr 24 5), 24, 24, some (.agg [(.int .u8 0), (.int .u8 0), (.int .u8 0), (.int .u8 0), (.int .u8 0), (.int .u8 0), (.int .u8 0), (.int .u8 0), (.int .u8 0), (.int .u8 0), (.int .u8 0), (.int .u8 0), (.int .u8 0), (.int .u8 0), (.int .u8 0), (.int .u8 0), (.int .u8 0), (.int .u8 0), (.int .u8 0), (.int .u8 0), (.int .u8 0), (.int .u8 0), (.int .u8 0), (.int .u8 0)])⟩ := by kernel_rfl
@[push_cast] theorem t186 : ti Tryd.prog 186 = ⟨.func, 1, 8, some (.con .nilFunc)⟩ := by kernel_rfl
@[push_cast] theorem t187 : ti Tryd.prog 187 = ⟨.func, 1, 8, some (.con .nilFunc)⟩ := by kernel_rfl
@[push_cast] theorem t189 : ti Tryd.prog 189 = ⟨.func, 1, 8, some (.con .nilFunc)⟩ := by kernel_rfl
@[push_cast] theorem t190 : ti Tryd.prog 190 = ⟨.func, 1, 8, some (.con .nilFunc)⟩ := by kernel_rfl
@[push_cast] theorem t191 : ti Tryd.prog 191 = ⟨(.ptr 193), 1, 8, some (.con (.pointer none))⟩ := by kernel_rfl
@[push_cast] theorem eq192 : EqOk Tryd.prog 192 = True := eq_true (eqOk_of (by kernel_rfl))
@[push_cast] theorem t192 : ti Tryd.prog 192 = ⟨(.struct [(0, 9)]), 1, 16, some (.agg [(.str [])])⟩ := by kernel_rfl
@[push_cast] theorem eq193 : EqOk Tryd.prog 193 = True := eq_true (eqOk_of (by kernel_rfl))
@[push_cast] theorem t193 : ti Tryd.prog 193 = ⟨(.struct [(0, 9)]), 1, 16, some (.agg [(.str [])])⟩ := by kernel_rfl
@[push_cast] theorem t194 : ti Tryd.prog 194 = ⟨.func, 1, 8, some (.con .nilFunc)⟩ := by kernel_rfl
@[push_cast] theorem t195 : ti Tryd.prog 195 = ⟨(.arr 20 173), 20, 160, some (.agg [(.int .u64 0), (.int .u64 0), (.int .u64 0), (.int .u64 0), (.int .u64 0), (.int .u64 0), (.int .u64 0), (.int .u64 0), (.int .u64 0), (.int .u64 0), (.int .u64 0), (.int .u64 0), (.int .u64 0), (.int .u64 0), (.int .u64 0), (.int .u64 0), (.int .u64 0), (.int .u64 0), (.int .u64 0), (.int .u64 0)])⟩ := by kernel_rfl
@[push_cast] theorem t196 : ti Tryd.prog 196 = ⟨(.arr 65 5), 65, 65, some (.agg [(.int .u8 0), (.int .u8 0), (.int .u8 0), (.int .u8 0), (.int .u8 0), (.int .u8 0), (.int .u8 0), (.int .u8 0), (.int .u8 0), (.int .u8 0), (.int .u8 0), (.int .u8 0), (.int .u8 0), (.int .u8 0), (.int .u8 0), (.int .u8 0), (.int .u8 0), (.int .u8 0), (.int .u8 0), (.int .u8 0), (.int .u8 0), (.int .u8 0), (.int .u8 0), (.int .u8 0), (.int .u8 0), (.int .u8 0), (.int .u8 0), (.int .u8 0), (.int .u8 0), (.int .u8 0), (.int .u8 0), (.int .u8 0), (.int .u8 0), (.int .u8 0), (.int .u8 0), (.int .u8 0), (.int .u8 0), (.int .u8 0), (.int .u8 0), (.int .u8 0), (.int .u8 0), (.int .u8 0), (.int .u8 0), (.int .u8 0), (.int .u8 0), (.int .u8 0), (.int .u8 0), (.int .u8 0), (.int .u8 0), (.int .u8 0), (.int .u8 0), (.int .u8 0), (.int .u8 0), (.int .u8 0), (.int .u8 0), (.int .u8 0), (.int .u8 0), (.int .u8 0), (.int .u8 0), (.int .u8 0), (.int .u8 0), (.int .u8 0), (.int .u8 0), (.int .u8 0), (.int .u8 0)])⟩ := by kernel_rfl
@[push_cast] theorem t197 : ti Tryd.prog 197 = ⟨.func, 1, 8, some (.con .nilFunc)⟩ := by kernel_rfl
@[push_cast] theorem t198 : ti Tryd.prog 198 = ⟨.func, 1, 8, some (.con .nilFunc)⟩ := by kernel_rfl
@[push_cast] theorem t199 : ti Tryd.prog 199 = ⟨(.arr 32 5), 32, 32, some (.agg [(.int .u8 0), (.int .u8 0), (.int .u8 0), (.int .u8 0), (.int .u8 0), (.int .u8 0), (.int .u8 0), (.int .u8 0), (.int .u8 0), (.int .u8 0), (.int .u8 0), (.int .u8 0), (.int .u8 0), (.int .u8 0), (.int .u8 0), (.int .u8 0), (.int .u8 0), (.int .u8 0), (.int .u8 0), (.int .u8 0), (.int .u8 0), (.int .u8 0), (.int .u8 0), (.int .u8 0), (.int .u8 0), (.int .u8 0), (.int .u8 0), (.int .u8 0), (.int .u8 0), (.int .u8 0), (.int .u8 0), (.int .u8 0)])⟩ := by kernel_rfl
@[push_cast] theorem t200 : ti Tryd.prog 200 = ⟨(.arr 64 5), 64, 64, some (.agg [(.int .u8 0), (.int .u8 0), (.int .u8 0), (.int .u8 0), (.int .u8 0), (.int .u8 0), (.int .u8 0), (.int .u8 0), (.int .u8 0), (.int .u8 0), (.int .u8 0), (.int .u8 0), (.int .u8 0), (.int .u8 0), (.int .u8 0), (.int .u8 0), (.int .u8 0), (.int .u8 0), (.int .u8 0), (.int .u8 0), (.int .u8 0), (.int .u8 0), (.int .u8 0), (.int .u8 0), (.int .u8 0), (.int .u8 0), (.int .u8 0), (.int .u8 0), (.int .u8 0), (.int .u8 0), (.int .u8 0), (.int .u8 0), (.int .u8 0), (.int .u8 0), (.int .u8 0), (.int .u8 0), (.int .u8 0), (.int .u8 0), (.int .u8 0), (.int .u8 0), (.int .u8 0), (.int .u8 0), (.int .u8 0), (.int .u8 0), (.int .u8 0), (.int .u8 0), (.int .u8 0), (.int .u8 0), (.int .u8 0), (.int .u8 0), (.int .u8 0), (.int .u8 0), (.int .u8 0), (.int .u8 0), (.int .u8 0), (.int .u8 0), (.int .u8 0), (.int .u8 0), (.int .u8 0), (.int .u8 0), (.int .u8 0), (.int .u8 0), (.int .u8 0), (.int .u8 0)])⟩ := by kernel_rfl
@[push_cast] theorem t201 : ti Tryd.prog 201 = ⟨(.struct [(0, 17), (1, 17), (2, 17), (3, 9)]), 4, 40, some (.agg [(.con (.pointer none)), (.con (.pointer none)), (.con (.pointer none)), (.str [])])⟩ := by kernel_rfl
@[push_cast] theorem t202 : ti Tryd.prog 202 = ⟨(.struct [(0, 17), (1, 17), (2, 17), (3, 9)]), 4, 40, some (.agg [(.con (.pointer none)), (.con (.pointer none)), (.con (.pointer none)), (.str [])])⟩ := by kernel_rfl
@[push_cast] theorem t203 : ti Tryd.prog 203 = ⟨(.arr 0 16), 0, 0, some (.agg [])⟩ := by kernel_rfl
@[push_cast] theorem t204 : ti Tryd.prog 204 = ⟨(.struct [(0, 203)]), 0, 0, some (.agg [])⟩ := by kernel_rfl
@[push_cast] theorem t205 : ti Tryd.prog 205 = ⟨(.struct [(0, 203)]), 0, 0, some (.agg [])⟩ := by kernel_rfl
@[push_cast] theorem t206 : ti Tryd.prog 206 = ⟨(.int .u8), 1, 1, some (.int .u8 0)⟩ := by kernel_rfl
@[push_cast] theorem t207 : ti Tryd.prog 207 = ⟨(.int .u8), 1, 1, some (.int .u8 0)⟩ := by kernel_rfl
@[push_cast] theorem t208 : ti Tryd.prog 208 = ⟨.func, 1, 8, some (.con .nilFunc)⟩ := by kernel_rfl
@[push_cast] theorem t209 : ti Tryd.prog 209 = ⟨(.int .i32), 1, 4, some (.int .i32 0)⟩ := by kernel_rfl
@[push_cast] theorem t210 : ti Tryd.prog 210 = ⟨(.int .i32), 1, 4, some (.int .i32 0)⟩ := by kernel_rfl
@[push_cast] theorem t211 : ti Tryd.prog 211 = ⟨(.struct [(0, 12), (1, 12), (2, 164), (3, 206), (4, 5), (5, 5), (6, 207), (7, 208), (8, 127), (9, 209), (10, 210)]), 11, 48, some (.agg [(.int .u64 0), (.int .u64 0), (.int .u32 0), (.int .u8 0), (.int .u8 0), (.int .u8 0), (.int .u8 0), (.con .nilFunc), (.con (.pointer none)), (.int .i32 0), (.int .i32 0)])⟩ := by kernel_rfl
@[push_cast] theorem t212 : ti Tryd.prog 212 = ⟨(.struct [(0, 12), (1, 12), (2, 164), (3, 206), (4, 5), (5, 5), (6, 207), (7, 208), (8, 127), (9, 209), (10, 210)]), 11, 48, some (.agg [(.int .u64 0), (.int .u64 0), (.int .u32 0), (.int .u8 0), (.int .u8 0), (.int .u8 0), (.int .u8 0), (.con .nilFunc), (.con (.pointer none)), (.int .i32 0), (.int .i32 0)])⟩ := by kernel_rfl
theorem n2 : Tryd.prog.funcs[2]? = some Tryd.f2 := by kernel_rfl
theorem e2 : entB Tryd.prog 2 = true := by kernel_rfl
theorem o2 : bodyOk (anL []) Tryd.f2 = true := by kernel_rfl
theorem n3 : Tryd.prog.funcs[3]? = some Tryd.f3 := by kernel_rfl
theorem e3 : entB Tryd.prog 3 = true := by kernel_rfl
theorem o3 : bodyOk (anL []) Tryd.f3 = true := by kernel_rfl
theorem n4 : Tryd.prog.funcs[4]? = some Tryd.f4 := by kernel_rfl
theorem e4 : entB Tryd.prog 4 = true := by kernel_rfl
theorem o4 : bodyOk (anL []) Tryd.f4 = true := by kernel_rfl
theorem n5 : Tryd.prog.funcs[5]? = some Tryd.f5 := by kernel_rfl
theorem e5 : entB Tryd.prog 5 = true := by kernel_rfl
theorem o5 : bodyOk (anL []) Tryd.f5 = true := by kernel_rfl
theorem n6 : Tryd.prog.funcs[6]? = some Tryd.f6 := by kernel_rfl
theorem e6 : entB Tryd.prog 6 = true := by kernel_rfl
theorem o6 : bodyOk (anL []) Tryd.f6 = true := by kernel_rfl
theorem w6 {ct : Ct} (ow : Nat → Bool) (ad : List Adj) {code : Code} (hb : Tryd.f6.body = some code) (hc : CtOk pg ct) {args : List V} {r : V} (ha : Nat.ble args.length 68 = true) (hr : r.noId = true) (h : exec ⟨pg, ct, ow, 68, anL []⟩ code ⟨argE args, hOf []⟩ (PostF pg.prog ad [.tmp 4] r [])) : PCall pg 6 args r := pcall_inF ad hc fol 6 n6 hb rfl e6 rfl (bodyOk_at o6 hb rfl) ha hr h
theorem n12 : Tryd.prog.funcs[12]? = some Tryd.f12 := by kernel_rfl
theorem e12 : entB Tryd.prog 12 = true := by kernel_rfl
theorem o12 : bodyOk (anL []) Tryd.f12 = true := by kernel_rfl
theorem w12 {ct : Ct} (ow : Nat → Bool) (ad : List Adj) {code : Code} (hb : Tryd.f12.body = some code) (hc : CtOk pg ct) {args : List V} {r : V} (ha : Nat.ble args.length 13 = true) (hr : r.noId = true) (h : exec ⟨pg, ct, ow, 13, anL []⟩ code ⟨argE args, hOf []⟩ (PostF pg.prog ad [.tmp 0] r [])) : PCall pg 12 args r := pcall_inF ad hc fol 12 n12 hb rfl e12 rfl (bodyOk_at o12 hb rfl) ha hr h
theorem n25 : Tryd.prog.funcs[25]? = some Tryd.f25 := by kernel_rfl
theorem e25 : entB Tryd.prog 25 = true := by kernel_rfl
theorem o25 : bodyOk (anL []) Tryd.f25 = true := by kernel_rfl
theorem w25 {ct : Ct} (ow : Nat → Bool) (ad : List Adj) {code : Code} (hb : Tryd.f25.body = some code) (hc : CtOk pg ct) {args : List V} {r : V} (ha : Nat.ble args.length 9 = true) (hr : r.noId = true) (h : exec ⟨pg, ct, ow, 9, anL []⟩ code ⟨argE args, hOf []⟩ (PostF pg.prog ad [.tmp 2, .tmp 3] r [])) : PCall pg 25 args r := pcall_inF ad hc fol 25 n25 hb rfl e25 rfl (bodyOk_at o25 hb rfl) ha hr h
theorem n26 : Tryd.prog.funcs[26]? = some Tryd.f26 := by kernel_rfl
theorem e26 : entB Tryd.prog 26 = true := by kernel_rfl
theorem o26 : bodyOk (anL []) Tryd.f26 = true := by kernel_rfl
theorem w26 {ct : Ct} (ow : Nat → Bool) (ad : List Adj) {code : Code} (hb : Tryd.f26.body = some code) (hc : CtOk pg ct) {args : List V} {r : V} (ha : Nat.ble args.length 9 = true) (hr : r.noId = true) (h : exec ⟨pg, ct, ow, 9, anL []⟩ code ⟨argE args, hOf []⟩ (PostF pg.prog ad [.tmp 2, .tmp 3] r [])) : PCall pg 26 args r := pcall_inF ad hc fol 26 n26 hb rfl e26 rfl (bodyOk_at o26 hb rfl) ha hr h
theorem n27 : Tryd.prog.funcs[27]? = some Tryd.f27 := by kernel_rfl
theorem e27 : entB Tryd.prog 27 = true := by kernel_rfl
theorem o27 : bodyOk (anL []) Tryd.f27 = true := by kernel_rfl
theorem w27 {ct : Ct} (ow : Nat → Bool) (ad : List Adj) {code : Code} (hb : Tryd.f27.body = some code) (hc : CtOk pg ct) {args : List V} {r : V} (ha : Nat.ble args.length 14 = true) (hr : r.noId = true) (h : exec ⟨pg, ct, ow, 14, anL []⟩ code ⟨argE args, hOf []⟩ (PostF pg.prog ad [.tmp 2, .tmp 3] r [])) : PCall pg 27 args r := pcall_inF ad hc fol 27 n27 hb rfl e27 rfl (bodyOk_at o27 hb rfl) ha hr h
theorem n28 : Tryd.prog.funcs[28]? = some Tryd.f28 := by kernel_rfl
theorem e28 : entB Tryd.prog 28 = true := by kernel_rfl
theorem o28 : bodyOk (anL [(15, [0, 1, 3, 7, 15, 7, 39, 127, 255]), (17, [0, 1, 3, 7, 15, 31, 63, 127, 255, 511, 1023, 2047, 4095, 8191, 16383, 32767, 65535, 131071, 262143, 524287, 1048575, 2097151, 4194303, 8388607, 16777215, 8388607, 41943039, 8388607, 243269631, 536870911, 1073741823, 2147483647])]) Tryd.f28 = true := by kernel_rfl
theorem w28 {ct : Ct} (ow : Nat → Bool) (ad : List Adj) {code : Code} (hb : Tryd.f28.body = some code) (hc : CtOk pg ct) {args : List V} {r : V} (ha : Nat.ble args.length 128 = true) (hr : r.noId = true) (h : exec ⟨pg, ct, ow, 128, anL [(15, [0, 1, 3, 7, 15, 7, 39, 127, 255]), (17, [0, 1, 3, 7, 15, 31, 63, 127, 255, 511, 1023, 2047, 4095, 8191, 16383, 32767, 65535, 131071, 262143, 524287, 1048575, 2097151, 4194303, 8388607, 16777215, 8388607, 41943039, 8388607, 243269631, 536870911, 1073741823, 2147483647])]⟩ code ⟨argE args, hOf []⟩ (PostF pg.prog ad [.tmp 2, .tmp 3] r [])) : PCall pg 28 args r := pcall_inF ad hc fol 28 n28 hb rfl e28 rfl (bodyOk_at o28 hb rfl) ha hr h
theorem n44 : Tryd.prog.funcs[44]? = some Tryd.f44 := by kernel_rfl
theorem e44 : entB Tryd.prog 44 = true := by kernel_rfl
theorem o44 : bodyOk (anL []) Tryd.f44 = true := by kernel_rfl
theorem w44 {ct : Ct} (ow : Nat → Bool) (ad : List Adj) {code : Code} (hb : Tryd.f44.body = some code) (hc : CtOk pg ct) {args : List V} {r : V} (ha : Nat.ble args.length 9 = true) (hr : r.noId = true) (h : exec ⟨pg, ct, ow, 9, anL []⟩ code ⟨argE args, hOf []⟩ (PostF pg.prog ad [.tmp 2] r [])) : PCall pg 44 args r := pcall_inF ad hc fol 44 n44 hb rfl e44 rfl (bodyOk_at o44 hb rfl) ha hr h
theorem n49 : Tryd.prog.funcs[49]? = some Tryd.f49 := by kernel_rfl
theorem e49 : entB Tryd.prog 49 = true := by kernel_rfl
theorem o49 : bodyOk (anL []) Tryd.f49 = true := by kernel_rfl
theorem w49 {ct : Ct} (ow : Nat → Bool) (ad : List Adj) {code : Code} (hb : Tryd.f49.body = some code) (hc : CtOk pg ct) {args : List V} {r : V} (ha : Nat.ble args.length 15 = true) (hr : r.noId = true) (h : exec ⟨pg, ct, ow, 15, anL []⟩ code ⟨argE args, hOf []⟩ (PostF pg.prog ad [.tmp 6] r [])) : PCall pg 49 args r := pcall_inF ad hc fol 49 n49 hb rfl e49 rfl (bodyOk_at o49 hb rfl) ha hr h
theorem n54 : Tryd.prog.funcs[54]? = some Tryd.f54 := by kernel_rfl
theorem e54 : entB Tryd.prog 54 = true := by kernel_rfl
theorem o54 : bodyOk (anL []) Tryd.f54 = true := by kernel_rfl
theorem w54 {ct : Ct} (ow : Nat → Bool) (ad : List Adj) {code : Code} (hb : Tryd.f54.body = some code) (hc : CtOk pg ct) {args : List V} {r : V} (ha : Nat.ble args.length 50 = true) (hr : r.noId = true) (h : exec ⟨pg, ct, ow, 50, anL []⟩ code ⟨argE args, hOf []⟩ (PostF pg.prog ad [.tmp 2] r [])) : PCall pg 54 args r := pcall_inF ad hc fol 54 n54 hb rfl e54 rfl (bodyOk_at o54 hb rfl) ha hr h
theorem n55 : Tryd.prog.funcs[55]? = some Tryd.f55 := by kernel_rfl
theorem e55 : entB Tryd.prog 55 = true := by kernel_rfl
theorem o55 : bodyOk (anL []) Tryd.f55 = true := by kernel_rfl
theorem w55 {ct : Ct} (ow : Nat → Bool) (ad : List Adj) {code : Code} (hb : Tryd.f55.body = some code) (hc : CtOk pg ct) {args : List V} {r : V} (ha : Nat.ble args.length 45 = true) (hr : r.noId = true) (h : exec ⟨pg, ct, ow, 45, anL []⟩ code ⟨argE args, hOf []⟩ (PostF pg.prog ad [.tmp 2] r [])) : PCall pg 55 args r := pcall_inF ad hc fol 55 n55 hb rfl e55 rfl (bodyOk_at o55 hb rfl) ha hr h
theorem n65 : Tryd.prog.funcs[65]? = some Tryd.f65 := by kernel_rfl
theorem e65 : entB Tryd.prog 65 = true := by kernel_rfl
theorem o65 : bodyOk (anL [(2, [0, 0, 2, 6, 14, 31, 63, 127, 0, 256, 769, 2047, 4095, 1793, 0, 16384, 49152, 124673, 255745, 524287, 1048575, 0, 2097152, 6301441, 16777215, 33554431, 0, 67108864, 216016641, 536870911, 1073741823, 0, 2147483648, 6926903041, 17179869183, 34359738367, 0, 68719476736, 221675267841, 549755813887, 1099511627775, 2199023255551])]) Tryd.f65 = true := by kernel_rfl
theorem w65 {ct : Ct} (ow : Nat → Bool) (ad : List Adj) {code : Code} (hb : Tryd.f65.body = some code) (hc : CtOk pg ct) {args : List V} {r : V} (ha : Nat.ble args.length 47 = true) (hr : r.noId = true) (h : exec ⟨pg, ct, ow, 47, anL [(2, [0, 0, 2, 6, 14, 31, 63, 127, 0, 256, 769, 2047, 4095, 1793, 0, 16384, 49152, 124673, 255745, 524287, 1048575, 0, 2097152, 6301441, 16777215, 33554431, 0, 67108864, 216016641, 536870911, 1073741823, 0, 2147483648, 6926903041, 17179869183, 34359738367, 0, 68719476736, 221675267841, 549755813887, 1099511627775, 2199023255551])]⟩ code ⟨argE args, hOf []⟩ (PostF pg.prog ad [.tmp 2] r [])) : PCall pg 65 args r := pcall_inF ad hc fol 65 n65 hb rfl e65 rfl (bodyOk_at o65 hb rfl) ha hr h
theorem n66 : Tryd.prog.funcs[66]? = some Tryd.f66 := by kernel_rfl
theorem e66 : entB Tryd.prog 66 = true := by kernel_rfl
theorem o66 : bodyOk (anL [(10, [0, 1, 0, 4, 12, 31, 63, 0, 128, 384, 1023, 2047, 0, 4992, 16383, 32767, 0, 65536, 209792, 524287, 0, 1520512, 4194303, 8388607, 0, 16777216, 53949312, 134217727, 268435455, 0, 536870912, 1610612736, 3879154560, 8589934591, 17179869183, 0, 34359738368, 111253336960, 274877906943, 549755813887, 1099511627775])]) Tryd.f66 = true := by kernel_rfl
theorem w66 {ct : Ct} (ow : Nat → Bool) (ad : List Adj) {code : Code} (hb : Tryd.f66.body = some code) (hc : CtOk pg ct) {args : List V} {r : V} (ha : Nat.ble args.length 77 = true) (hr : r.noId = true) (h : exec ⟨pg, ct, ow, 77, anL [(10, [0, 1, 0, 4, 12, 31, 63, 0, 128, 384, 1023, 2047, 0, 4992, 16383, 32767, 0, 65536, 209792, 524287, 0, 1520512, 4194303, 8388607, 0, 16777216, 53949312, 134217727, 268435455, 0, 536870912, 1610612736, 3879154560, 8589934591, 17179869183, 0, 34359738368, 111253336960, 274877906943, 549755813887, 1099511627775])]⟩ code ⟨argE args, hOf []⟩ (PostF pg.prog ad [.tmp 2] r [])) : PCall pg 66 args r := pcall_inF ad hc fol 66 n66 hb rfl e66 rfl (bodyOk_at o66 hb rfl) ha hr h
theorem n67 : Tryd.prog.funcs[67]? = some Tryd.f67 := by kernel_rfl
theorem e67 : entB Tryd.prog 67 = true := by kernel_rfl
theorem o67 : bodyOk (anL [(3, [0, 0, 2, 7, 15, 31]), (5, [0, 1, 0, 4, 0, 16, 0, 64, 0, 256, 1023, 2047, 0]), (15, [0, 1, 3, 0, 15, 0, 32, 96, 255, 511, 1023, 0, 2048, 6144, 14336, 32767, 0, 65536, 196608, 458752, 1048575, 0, 2097152, 6291456, 16777215, 33554431])]) Tryd.f67 = true := by kernel_rfl
theorem w67 {ct : Ct} (ow : Nat → Bool) (ad : List Adj) {code : Code} (hb : Tryd.f67.body = some code) (hc : CtOk pg ct) {args : List V} {r : V} (ha : Nat.ble args.length 91 = true) (hr : r.noId = true) (h : exec ⟨pg, ct, ow, 91, anL [(3, [0, 0, 2, 7, 15, 31]), (5, [0, 1, 0, 4, 0, 16, 0, 64, 0, 256, 1023, 2047, 0]), (15, [0, 1, 3, 0, 15, 0, 32, 96, 255, 511, 1023, 0, 2048, 6144, 14336, 32767, 0, 65536, 196608, 458752, 1048575, 0, 2097152, 6291456, 16777215, 33554431])]⟩ code ⟨argE args, hOf []⟩ (PostF pg.prog ad [.tmp 2, .tmp 3] r [])) : PCall pg 67 args r := pcall_inF ad hc fol 67 n67 hb rfl e67 rfl (bodyOk_at o67 hb rfl) ha hr h
theorem n68 : Tryd.prog.funcs[68]? = some Tryd.f68 := by kernel_rfl
theorem e68 : entB Tryd.prog 68 = true := by kernel_rfl
theorem o68 : bodyOk (anL []) Tryd.f68 = true := by kernel_rfl
theorem w68 {ct : Ct} (ow : Nat → Bool) (ad : List Adj) {code : Code} (hb : Tryd.f68.body = some code) (hc : CtOk pg ct) {args : List V} {r : V} (ha : Nat.ble args.length 22 = true) (hr : r.noId = true) (h : exec ⟨pg, ct, ow, 22, anL []⟩ code ⟨argE args, hOf []⟩ (PostF pg.prog ad [.tmp 2] r [])) : PCall pg 68 args r := pcall_inF ad hc fol 68 n68 hb rfl e68 rfl (bodyOk_at o68 hb rfl) ha hr h
theorem n69 : Tryd.prog.funcs[69]? = some Tryd.f69 := by kernel_rfl
theorem e69 : entB Tryd.prog 69 = true := by kernel_rfl
theorem o69 : bodyOk (anL []) Tryd.f69 = true := by kernel_rfl
theorem w69 {ct : Ct} (ow : Nat → Bool) (ad : List Adj) {code : Code} (hb : Tryd.f69.body = some code) (hc : CtOk pg ct) {args : List V} {r : V} (ha : Nat.ble args.length 29 = true) (hr : r.noId = true) (h : exec ⟨pg, ct, ow, 29, anL []⟩ code ⟨argE args, hOf []⟩ (PostF pg.prog ad [.tmp 4] r [])) : PCall pg 69 args r := pcall_inF ad hc fol 69 n69 hb rfl e69 rfl (bodyOk_at o69 hb rfl) ha hr h
theorem n70 : Tryd.prog.funcs[70]? = some Tryd.f70 := by kernel_rfl
theorem e70 : entB Tryd.prog 70 = true := by kernel_rfl
theorem o70 : bodyOk (anL []) Tryd.f70 = true := by kernel_rfl
theorem w70 {ct : Ct} (ow : Nat → Bool) (ad : List Adj) {code : Code} (hb : Tryd.f70.body = some code) (hc : CtOk pg ct) {args : List V} {r : V} (ha : Nat.ble args.length 9 = true) (hr : r.noId = true) (h : exec ⟨pg, ct, ow, 9, anL []⟩ code ⟨argE args, hOf []⟩ (PostF pg.prog ad [.tmp 2] r [])) : PCall pg 70 args r := pcall_inF ad hc fol 70 n70 hb rfl e70 rfl (bodyOk_at o70 hb rfl) ha hr h
theorem n71 : Tryd.prog.funcs[71]? = some Tryd.f71 := by kernel_rfl
theorem e71 : entB Tryd.prog 71 = true := by kernel_rfl
theorem o71 : bodyOk (anL []) Tryd.f71 = true := by kernel_rfl
theorem w71 {ct : Ct} (ow : Nat → Bool) (ad : List Adj) {code : Code} (hb : Tryd.f71.body = some code) (hc : CtOk pg ct) {args : List V} {r : V} (ha : Nat.ble args.length 16 = true) (hr : r.noId = true) (h : exec ⟨pg, ct, ow, 16, anL []⟩ code ⟨argE args, hOf []⟩ (PostF pg.prog ad [.tmp 4] r [])) : PCall pg 71 args r := pcall_inF ad hc fol 71 n71 hb rfl e71 rfl (bodyOk_at o71 hb rfl) ha hr h
theorem n72 : Tryd.prog.funcs[72]? = some Tryd.f72 := by kernel_rfl
theorem e72 : entB Tryd.prog 72 = true := by kernel_rfl
theorem o72 : bodyOk (anL []) Tryd.f72 = true := by kernel_rfl
theorem w72 {ct : Ct} (ow : Nat → Bool) (ad : List Adj) {code : Code} (hb : Tryd.f72.body = some code) (hc : CtOk pg ct) {args : List V} {r : V} (ha : Nat.ble args.length 5 = true) (hr : r.noId = true) (h : exec ⟨pg, ct, ow, 5, anL []⟩ code ⟨argE args, hOf []⟩ (PostF pg.prog ad [.tmp 2] r [])) : PCall pg 72 args r := pcall_inF ad hc fol 72 n72 hb rfl e72 rfl (bodyOk_at o72 hb rfl) ha hr h
theorem n90 : Tryd.prog.funcs[90]? = some Tryd.f90 := by kernel_rfl
theorem e90 : entB Tryd.prog 90 = true := by kernel_rfl
theorem o90 : bodyOk (anL []) Tryd.f90 = true := by kernel_rfl
theorem w90 {ct : Ct} (ow : Nat → Bool) (ad : List Adj) {code : Code} (hb : Tryd.f90.body = some code) (hc : CtOk pg ct) {args : List V} {r : V} (ha : Nat.ble args.length 8 = true) (hr : r.noId = true) (h : exec ⟨pg, ct, ow, 8, anL []⟩ code ⟨argE args, hOf []⟩ (PostF pg.prog ad [.tmp 4] r [])) : PCall pg 90 args r := pcall_inF ad hc fol 90 n90 hb rfl e90 rfl (bodyOk_at o90 hb rfl) ha hr h
theorem n101 : Tryd.prog.funcs[101]? = some Tryd.f101 := by kernel_rfl
theorem e101 : entB Tryd.prog 101 = true := by kernel_rfl
theorem o101 : bodyOk (anL []) Tryd.f101 = true := by kernel_rfl
theorem w101 {ct : Ct} (ow : Nat → Bool) (ad : List Adj) {code : Code} (hb : Tryd.f101.body = some code) (hc : CtOk pg ct) {args : List V} {r : V} (ha : Nat.ble args.length 58 = true) (hr : r.noId = true) (h : exec ⟨pg, ct, ow, 58, anL []⟩ code ⟨argE args, hOf []⟩ (PostF pg.prog ad [.cell 2 122] r [])) : PCall pg 101 args r := pcall_inF ad hc fol 101 n101 hb rfl e101 rfl (bodyOk_at o101 hb rfl) ha hr h
theorem n102 : Tryd.prog.funcs[102]? = some Tryd.f102 := by kernel_rfl
theorem e102 : entB Tryd.prog 102 = true := by kernel_rfl
theorem o102 : bodyOk (anL []) Tryd.f102 = true := by kernel_rfl
theorem w102 {ct : Ct} (ow : Nat → Bool) (ad : List Adj) {code : Code} (hb : Tryd.f102.body = some code) (hc : CtOk pg ct) {args : List V} {r : V} (ha : Nat.ble args.length 2 = true) (hr : r.noId = true) (h : exec ⟨pg, ct, ow, 2, anL []⟩ code ⟨argE args, hOf []⟩ (PostF pg.prog ad [.tmp 0] r [])) : PCall pg 102 args r := pcall_inF ad hc fol 102 n102 hb rfl e102 rfl (bodyOk_at o102 hb rfl) ha hr h
theorem n103 : Tryd.prog.funcs[103]? = some Tryd.f103 := by kernel_rfl
theorem e103 : entB Tryd.prog 103 = true := by kernel_rfl
theorem o103 : bodyOk (anL []) Tryd.f103 = true := by kernel_rfl
theorem w103 {ct : Ct} (ow : Nat → Bool) (ad : List Adj) {code : Code} (hb : Tryd.f103.body = some code) (hc : CtOk pg ct) {args : List V} {r : V} (ha : Nat.ble args.length 16 = true) (hr : r.noId = true) (h : exec ⟨pg, ct, ow, 16, anL []⟩ code ⟨argE args, hOf []⟩ (PostF pg.prog ad [.tmp 4] r [])) : PCall pg 103 args r := pcall_inF ad hc fol 103 n103 hb rfl e103 rfl (bodyOk_at o103 hb rfl) ha hr h
theorem n104 : Tryd.prog.funcs[104]? = some Tryd.f104 := by kernel_rfl
theorem e104 : entB Tryd.prog 104 = true := by kernel_rfl
theorem o104 : bodyOk (anL []) Tryd.f104 = true := by kernel_rfl
theorem w104 {ct : Ct} (ow : Nat → Bool) (ad : List Adj) {code : Code} (hb : Tryd.f104.body = some code) (hc : CtOk pg ct) {args : List V} {r : V} (ha : Nat.ble args.length 2 = true) (hr : r.noId = true) (h : exec ⟨pg, ct, ow, 2, anL []⟩ code ⟨argE args, hOf []⟩ (PostF pg.prog ad [.tmp 0] r [])) : PCall pg 104 args r := pcall_inF ad hc fol 104 n104 hb rfl e104 rfl (bodyOk_at o104 hb rfl) ha hr h
theorem n105 : Tryd.prog.funcs[105]? = some Tryd.f105 := by kernel_rfl
theorem e105 : entB Tryd.prog 105 = true := by kernel_rfl
theorem o105 : bodyOk (anL []) Tryd.f105 = true := by kernel_rfl
theorem w105 {ct : Ct} (ow : Nat → Bool) (ad : List Adj) {code : Code} (hb : Tryd.f105.body = some code) (hc : CtOk pg ct) {args : List V} {r : V} (ha : Nat.ble args.length 14 = true) (hr : r.noId = true) (h : exec ⟨pg, ct, ow, 14, anL []⟩ code ⟨argE args, hOf []⟩ (PostF pg.prog ad [.tmp 2] r [])) : PCall pg 105 args r := pcall_inF ad hc fol 105 n105 hb rfl e105 rfl (bodyOk_at o105 hb rfl) ha hr h
theorem n106 : Tryd.prog.funcs[106]? = some Tryd.f106 := by kernel_rfl
theorem e106 : entB Tryd.prog 106 = true := by kernel_rfl
theorem o106 : bodyOk (anL []) Tryd.f106 = true := by kernel_rfl
theorem w106 {ct : Ct} (ow : Nat → Bool) (ad : List Adj) {code : Code} (hb : Tryd.f106.body = some code) (hc : CtOk pg ct) {args : List V} {r : V} (ha : Nat.ble args.length 19 = true) (hr : r.noId = true) (h : exec ⟨pg, ct, ow, 19, anL []⟩ code ⟨argE args, hOf []⟩ (PostF pg.prog ad [.tmp 4] r [])) : PCall pg 106 args r := pcall_inF ad hc fol 106 n106 hb rfl e106 rfl (bodyOk_at o106 hb rfl) ha hr h
theorem n108 : Tryd.prog.funcs[108]? = some Tryd.f108 := by kernel_rfl
theorem e108 : entB Tryd.prog 108 = true := by kernel_rfl
theorem o108 : bodyOk (anL []) Tryd.f108 = true := by kernel_rfl
theorem w108 {ct : Ct} (ow : Nat → Bool) (ad : List Adj) {code : Code} (hb : Tryd.f108.body = some code) (hc : CtOk pg ct) {args : List V} {r : V} (ha : Nat.ble args.length 33 = true) (hr : r.noId = true) (h : exec ⟨pg, ct, ow, 33, anL []⟩ code ⟨argE args, hOf []⟩ (PostF pg.prog ad [.tmp 4] r [])) : PCall pg 108 args r := pcall_inF ad hc fol 108 n108 hb rfl e108 rfl (bodyOk_at o108 hb rfl) ha hr h
theorem n109 : Tryd.prog.funcs[109]? = some Tryd.f109 := by kernel_rfl
theorem e109 : entB Tryd.prog 109 = true := by kernel_rfl
theorem o109 : bodyOk (anL []) Tryd.f109 = true := by kernel_rfl
theorem w109 {ct : Ct} (ow : Nat → Bool) (ad : List Adj) {code : Code} (hb : Tryd.f109.body = some code) (hc : CtOk pg ct) {args : List V} {r : V} (ha : Nat.ble args.length 16 = true) (hr : r.noId = true) (h : exec ⟨pg, ct, ow, 16, anL []⟩ code ⟨argE args, hOf []⟩ (PostF pg.prog ad [.tmp 2] r [])) : PCall pg 109 args r := pcall_inF ad hc fol 109 n109 hb rfl e109 rfl (bodyOk_at o109 hb rfl) ha hr h
theorem n125 : Tryd.prog.funcs[125]? = some Tryd.f125 := by kernel_rfl
theorem e125 : entB Tryd.prog 125 = true := by kernel_rfl
theorem o125 : bodyOk (anL []) Tryd.f125 = true := by kernel_rfl
theorem w125 {ct : Ct} (ow : Nat → Bool) (ad : List Adj) {code : Code} (hb : Tryd.f125.body = some code) (hc : CtOk pg ct) {args : List V} {r : V} (ha : Nat.ble args.length 8 = true) (hr : r.noId = true) (h : exec ⟨pg, ct, ow, 8, anL []⟩ code ⟨argE args, hOf []⟩ (PostF pg.prog ad [.tmp 4] r [])) : PCall pg 125 args r := pcall_inF ad hc fol 125 n125 hb rfl e125 rfl (bodyOk_at o125 hb rfl) ha hr h
theorem n138 : Tryd.prog.funcs[138]? = some Tryd.f138 := by kernel_rfl
theorem e138 : entB Tryd.prog 138 = true := by kernel_rfl
theorem o138 : bodyOk (anL []) Tryd.f138 = true := by kernel_rfl
theorem w138 {ct : Ct} (ow : Nat → Bool) (ad : List Adj) {code : Code} (hb : Tryd.f138.body = some code) (hc : CtOk pg ct) {args : List V} {r : V} (ha : Nat.ble args.length 26 = true) (hr : r.noId = true) (h : exec ⟨pg, ct, ow, 26, anL []⟩ code ⟨argE args, hOf []⟩ (PostF pg.prog ad [.tmp 4] r [])) : PCall pg 138 args r := pcall_inF ad hc fol 138 n138 hb rfl e138 rfl (bodyOk_at o138 hb rfl) ha hr h
end Go.Abs
