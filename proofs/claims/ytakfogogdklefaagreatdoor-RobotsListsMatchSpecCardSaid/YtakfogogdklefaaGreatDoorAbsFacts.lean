import Derived.Test.YtakfogogdklefaaGreatDoorAbsK2
import Derived.Test.YtakfogogdklefaaGreatDoorRows
import Derived.Lib.TrailingZeros
import Derived.Lib.ItoaNum
/- facts of this seat's program: its types and functions, by their numbers -/
namespace Go.Abs
open Go Go.Proofs
set_option maxRecDepth 100000
def tabs (w : World) : Prop := Lib.TabIs Tryz.prog w "internal/strconv.uint64pow10" .u64 Lib.pow10Tab ∧ Lib.TabIs Tryz.prog w "math/bits.deBruijn64tab" .u8 (Lib.deBruijn64tab.map fun (n : Nat) => (n : Int)) ∧ ErrCell 2 w
noncomputable def pg : PG := mkPG Tryz.prog 8 fun w => tabs w ∧ w.ShapedOpen Tryz.prog
theorem tabPow {w : World} (h : pg.ok w) : Lib.TabIs Tryz.prog w "internal/strconv.uint64pow10" .u64 Lib.pow10Tab := by
  obtain ⟨w0, ⟨h1, _⟩, h2⟩ := h
  exact tabIs_same (g := 1) (by kernel_rfl) (by decide) h2 h1.1
theorem tabDb64 {w : World} (h : pg.ok w) : Lib.TabIs Tryz.prog w "math/bits.deBruijn64tab" .u8 (Lib.deBruijn64tab.map fun (n : Nat) => (n : Int)) := by
  obtain ⟨w0, ⟨h1, _⟩, h2⟩ := h
  exact tabIs_same (g := 7) (by kernel_rfl) (by decide) h2 h1.2.1
theorem errSyn {w : World} (h : pg.ok w) : ErrCell 2 w := by
  obtain ⟨w0, ⟨h1, _⟩, h2⟩ := h
  obtain ⟨ev, a, b⟩ := h1.2.2
  exact ⟨ev, by rw [cell_same (h2 2 (by decide))]; exact a, b⟩
theorem tabs_of {w : World} (l : List (String × DataW Unit)) (m0 : ("internal/strconv.uint64pow10", Lib.tabData .u64 Lib.pow10Tab) ∈ l) (m1 : ("math/bits.deBruijn64tab", Lib.tabData .u8 (Lib.deBruijn64tab.map fun (n : Nat) => (n : Int))) ∈ l) (me : ∃ d, ("strconv.ErrSyntax", d) ∈ l) (h : laidMet Tryz.prog l w) : tabs w := ⟨laidMet_cells (g := 1) (t := 190) (e := 169) (n := 20) (by kernel_rfl) (by kernel_rfl) (by kernel_rfl) (by kernel_rfl) (by kernel_rfl) (by kernel_rfl) l m0 h, laidMet_cells (g := 7) (t := 211) (e := 5) (n := 64) (by kernel_rfl) (by kernel_rfl) (by kernel_rfl) (by kernel_rfl) (by kernel_rfl) (by kernel_rfl) l m1 h, (match me with | ⟨d, hd⟩ => laidMet_iface (g := 2) (t := 71) (by kernel_rfl) (by kernel_rfl) (by kernel_rfl) l d hd h)⟩

@[push_cast] theorem pg_prog : pg.prog = Tryz.prog := rfl
theorem fol : Tryz.prog.follows .mixedOrders = true := by kernel_rfl
@[push_cast] theorem t1 : ti Tryz.prog 1 = ⟨.func, 1, 8, some (.con .nilFunc)⟩ := by kernel_rfl
@[push_cast] theorem t2 : ti Tryz.prog 2 = ⟨(.int .i64), 1, 8, some (.int .i64 0)⟩ := by kernel_rfl
@[push_cast] theorem t3 : ti Tryz.prog 3 = ⟨(.int .i64), 1, 8, some (.int .i64 0)⟩ := by kernel_rfl
@[push_cast] theorem t4 : ti Tryz.prog 4 = ⟨.bool, 1, 1, some (.bool false)⟩ := by kernel_rfl
@[push_cast] theorem t5 : ti Tryz.prog 5 = ⟨(.int .u8), 1, 1, some (.int .u8 0)⟩ := by kernel_rfl
@[push_cast] theorem t6 : ti Tryz.prog 6 = ⟨(.int .u8), 1, 1, some (.int .u8 0)⟩ := by kernel_rfl
@[push_cast] theorem eq7 : EqOk Tryz.prog 7 = True := eq_true (eqOk_of (by kernel_rfl))
@[push_cast] theorem t7 : ti Tryz.prog 7 = ⟨(.struct [(0, 2), (1, 3), (2, 4), (3, 6)]), 4, 24, some (.agg [(.int .i64 0), (.int .i64 0), (.bool false), (.int .u8 0)])⟩ := by kernel_rfl
@[push_cast] theorem eq8 : EqOk Tryz.prog 8 = True := eq_true (eqOk_of (by kernel_rfl))
@[push_cast] theorem t8 : ti Tryz.prog 8 = ⟨(.struct [(0, 2), (1, 3), (2, 4), (3, 6)]), 4, 24, some (.agg [(.int .i64 0), (.int .i64 0), (.bool false), (.int .u8 0)])⟩ := by kernel_rfl
@[push_cast] theorem t9 : ti Tryz.prog 9 = ⟨.str, 1, 16, some (.str [])⟩ := by kernel_rfl
@[push_cast] theorem t10 : ti Tryz.prog 10 = ⟨.str, 1, 16, some (.str [])⟩ := by kernel_rfl
@[push_cast] theorem t11 : ti Tryz.prog 11 = ⟨.str, 1, 16, some (.str [])⟩ := by kernel_rfl
@[push_cast] theorem t12 : ti Tryz.prog 12 = ⟨(.int .u64), 1, 8, some (.int .u64 0)⟩ := by kernel_rfl
@[push_cast] theorem t13 : ti Tryz.prog 13 = ⟨(.struct [(0, 9), (1, 12)]), 2, 24, some (.agg [(.str []), (.int .u64 0)])⟩ := by kernel_rfl
@[push_cast] theorem t14 : ti Tryz.prog 14 = ⟨(.struct [(0, 9), (1, 12)]), 2, 24, some (.agg [(.str []), (.int .u64 0)])⟩ := by kernel_rfl
@[push_cast] theorem t15 : ti Tryz.prog 15 = ⟨(.ptr 213), 1, 8, some (.con (.pointer none))⟩ := by kernel_rfl
@[push_cast] theorem t16 : ti Tryz.prog 16 = ⟨(.ptr 216), 1, 8, some (.con (.pointer none))⟩ := by kernel_rfl
@[push_cast] theorem t17 : ti Tryz.prog 17 = ⟨(.ptr 223), 1, 8, some (.con (.pointer none))⟩ := by kernel_rfl
@[push_cast] theorem t18 : ti Tryz.prog 18 = ⟨(.struct [(0, 17)]), 1, 8, some (.agg [(.con (.pointer none))])⟩ := by kernel_rfl
@[push_cast] theorem t19 : ti Tryz.prog 19 = ⟨(.struct [(0, 17)]), 1, 8, some (.agg [(.con (.pointer none))])⟩ := by kernel_rfl
@[push_cast] theorem t20 : ti Tryz.prog 20 = ⟨.iface, 1, 16, some (.con .nilIface)⟩ := by kernel_rfl
@[push_cast] theorem t21 : ti Tryz.prog 21 = ⟨(.int .i32), 1, 4, some (.int .i32 0)⟩ := by kernel_rfl
@[push_cast] theorem t22 : ti Tryz.prog 22 = ⟨(.slice 57), 1, 24, some .nilsl⟩ := by kernel_rfl
@[push_cast] theorem t23 : ti Tryz.prog 23 = ⟨(.struct [(0, 4), (1, 22)]), 2, 32, some (.agg [(.bool false), .nilsl])⟩ := by kernel_rfl
@[push_cast] theorem t24 : ti Tryz.prog 24 = ⟨(.struct [(0, 4), (1, 22)]), 2, 32, some (.agg [(.bool false), .nilsl])⟩ := by kernel_rfl
@[push_cast] theorem t25 : ti Tryz.prog 25 = ⟨(.int .i64), 1, 8, some (.int .i64 0)⟩ := by kernel_rfl
@[push_cast] theorem t27 : ti Tryz.prog 27 = ⟨.func, 1, 8, some (.con .nilFunc)⟩ := by kernel_rfl
@[push_cast] theorem t28 : ti Tryz.prog 28 = ⟨.func, 1, 8, some (.con .nilFunc)⟩ := by kernel_rfl
@[push_cast] theorem t29 : ti Tryz.prog 29 = ⟨.func, 1, 8, some (.con .nilFunc)⟩ := by kernel_rfl
@[push_cast] theorem t30 : ti Tryz.prog 30 = ⟨.func, 1, 8, some (.con .nilFunc)⟩ := by kernel_rfl
@[push_cast] theorem t32 : ti Tryz.prog 32 = ⟨.func, 1, 8, some (.con .nilFunc)⟩ := by kernel_rfl
@[push_cast] theorem t33 : ti Tryz.prog 33 = ⟨.func, 1, 8, some (.con .nilFunc)⟩ := by kernel_rfl
@[push_cast] theorem t34 : ti Tryz.prog 34 = ⟨.func, 1, 8, some (.con .nilFunc)⟩ := by kernel_rfl
@[push_cast] theorem eq35 : EqOk Tryz.prog 35 = True := eq_true (eqOk_of (by kernel_rfl))
@[push_cast] theorem t35 : ti Tryz.prog 35 = ⟨(.struct [(0, 9), (1, 9), (2, 9), (3, 9), (4, 9), (5, 4), (6, 9), (7, 4)]), 8, 112, some (.agg [(.str []), (.str []), (.str []), (.str []), (.str []), (.bool false), (.str []), (.bool false)])⟩ := by kernel_rfl
@[push_cast] theorem eq36 : EqOk Tryz.prog 36 = True := eq_true (eqOk_of (by kernel_rfl))
@[push_cast] theorem t36 : ti Tryz.prog 36 = ⟨(.struct [(0, 9), (1, 9), (2, 9), (3, 9), (4, 9), (5, 4), (6, 9), (7, 4)]), 8, 112, some (.agg [(.str []), (.str []), (.str []), (.str []), (.str []), (.bool false), (.str []), (.bool false)])⟩ := by kernel_rfl
@[push_cast] theorem t37 : ti Tryz.prog 37 = ⟨(.slice 3), 1, 24, some .nilsl⟩ := by kernel_rfl
@[push_cast] theorem t39 : ti Tryz.prog 39 = ⟨.func, 1, 8, some (.con .nilFunc)⟩ := by kernel_rfl
@[push_cast] theorem t40 : ti Tryz.prog 40 = ⟨.func, 1, 8, some (.con .nilFunc)⟩ := by kernel_rfl
@[push_cast] theorem t41 : ti Tryz.prog 41 = ⟨(.slice 24), 1, 24, some .nilsl⟩ := by kernel_rfl
@[push_cast] theorem t43 : ti Tryz.prog 43 = ⟨.func, 1, 8, some (.con .nilFunc)⟩ := by kernel_rfl
@[push_cast] theorem t44 : ti Tryz.prog 44 = ⟨.func, 1, 8, some (.con .nilFunc)⟩ := by kernel_rfl
@[push_cast] theorem t45 : ti Tryz.prog 45 = ⟨(.slice 9), 1, 24, some .nilsl⟩ := by kernel_rfl
@[push_cast] theorem t47 : ti Tryz.prog 47 = ⟨.func, 1, 8, some (.con .nilFunc)⟩ := by kernel_rfl
@[push_cast] theorem t48 : ti Tryz.prog 48 = ⟨.func, 1, 8, some (.con .nilFunc)⟩ := by kernel_rfl
@[push_cast] theorem t49 : ti Tryz.prog 49 = ⟨.func, 1, 8, some (.con .nilFunc)⟩ := by kernel_rfl
@[push_cast] theorem t50 : ti Tryz.prog 50 = ⟨(.ptr 52), 1, 8, some (.con (.pointer none))⟩ := by kernel_rfl
@[push_cast] theorem eq51 : EqOk Tryz.prog 51 = True := eq_true (eqOk_of (by kernel_rfl))
@[push_cast] theorem t51 : ti Tryz.prog 51 = ⟨(.struct [(0, 9), (1, 3)]), 2, 24, some (.agg [(.str []), (.int .i64 0)])⟩ := by kernel_rfl
@[push_cast] theorem eq52 : EqOk Tryz.prog 52 = True := eq_true (eqOk_of (by kernel_rfl))
@[push_cast] theorem t52 : ti Tryz.prog 52 = ⟨(.struct [(0, 9), (1, 3)]), 2, 24, some (.agg [(.str []), (.int .i64 0)])⟩ := by kernel_rfl
@[push_cast] theorem t53 : ti Tryz.prog 53 = ⟨.func, 1, 8, some (.con .nilFunc)⟩ := by kernel_rfl
@[push_cast] theorem t55 : ti Tryz.prog 55 = ⟨.func, 1, 8, some (.con .nilFunc)⟩ := by kernel_rfl
@[push_cast] theorem eq56 : EqOk Tryz.prog 56 = True := eq_true (eqOk_of (by kernel_rfl))
@[push_cast] theorem t56 : ti Tryz.prog 56 = ⟨(.struct [(0, 9), (1, 3), (2, 3)]), 3, 32, some (.agg [(.str []), (.int .i64 0), (.int .i64 0)])⟩ := by kernel_rfl
@[push_cast] theorem eq57 : EqOk Tryz.prog 57 = True := eq_true (eqOk_of (by kernel_rfl))
@[push_cast] theorem t57 : ti Tryz.prog 57 = ⟨(.struct [(0, 9), (1, 3), (2, 3)]), 3, 32, some (.agg [(.str []), (.int .i64 0), (.int .i64 0)])⟩ := by kernel_rfl
@[push_cast] theorem t59 : ti Tryz.prog 59 = ⟨.func, 1, 8, some (.con .nilFunc)⟩ := by kernel_rfl
@[push_cast] theorem eq60 : EqOk Tryz.prog 60 = True := eq_true (eqOk_of (by kernel_rfl))
@[push_cast] theorem t60 : ti Tryz.prog 60 = ⟨(.struct [(0, 9), (1, 3), (2, 4)]), 3, 32, some (.agg [(.str []), (.int .i64 0), (.bool false)])⟩ := by kernel_rfl
@[push_cast] theorem eq61 : EqOk Tryz.prog 61 = True := eq_true (eqOk_of (by kernel_rfl))
@[push_cast] theorem t61 : ti Tryz.prog 61 = ⟨(.struct [(0, 9), (1, 3), (2, 4)]), 3, 32, some (.agg [(.str []), (.int .i64 0), (.bool false)])⟩ := by kernel_rfl
@[push_cast] theorem t62 : ti Tryz.prog 62 = ⟨.func, 1, 8, some (.con .nilFunc)⟩ := by kernel_rfl
@[push_cast] theorem t63 : ti Tryz.prog 63 = ⟨.func, 1, 8, some (.con .nilFunc)⟩ := by kernel_rfl
@[push_cast] theorem t65 : ti Tryz.prog 65 = ⟨.func, 1, 8, some (.con .nilFunc)⟩ := by kernel_rfl
@[push_cast] theorem t66 : ti Tryz.prog 66 = ⟨(.ptr 69), 1, 8, some (.con (.pointer none))⟩ := by kernel_rfl
@[push_cast] theorem t67 : ti Tryz.prog 67 = ⟨(.slice 5), 1, 24, some .nilsl⟩ := by kernel_rfl
@[push_cast] theorem t68 : ti Tryz.prog 68 = ⟨(.struct [(0, 66), (1, 67)]), 2, 32, some (.agg [(.con (.pointer none)), .nilsl])⟩ := by kernel_rfl
@[push_cast] theorem t69 : ti Tryz.prog 69 = ⟨(.struct [(0, 66), (1, 67)]), 2, 32, some (.agg [(.con (.pointer none)), .nilsl])⟩ := by kernel_rfl
@[push_cast] theorem t70 : ti Tryz.prog 70 = ⟨.iface, 1, 16, some (.con .nilIface)⟩ := by kernel_rfl
@[push_cast] theorem t71 : ti Tryz.prog 71 = ⟨.iface, 1, 16, some (.con .nilIface)⟩ := by kernel_rfl
@[push_cast] theorem t73 : ti Tryz.prog 73 = ⟨.func, 1, 8, some (.con .nilFunc)⟩ := by kernel_rfl
@[push_cast] theorem t74 : ti Tryz.prog 74 = ⟨.func, 1, 8, some (.con .nilFunc)⟩ := by kernel_rfl
@[push_cast] theorem t75 : ti Tryz.prog 75 = ⟨.func, 1, 8, some (.con .nilFunc)⟩ := by kernel_rfl
@[push_cast] theorem t76 : ti Tryz.prog 76 = ⟨.func, 1, 8, some (.con .nilFunc)⟩ := by kernel_rfl
@[push_cast] theorem t77 : ti Tryz.prog 77 = ⟨.func, 1, 8, some (.con .nilFunc)⟩ := by kernel_rfl
@[push_cast] theorem t79 : ti Tryz.prog 79 = ⟨.func, 1, 8, some (.con .nilFunc)⟩ := by kernel_rfl
@[push_cast] theorem t80 : ti Tryz.prog 80 = ⟨.func, 1, 8, some (.con .nilFunc)⟩ := by kernel_rfl
@[push_cast] theorem t82 : ti Tryz.prog 82 = ⟨.func, 1, 8, some (.con .nilFunc)⟩ := by kernel_rfl
@[push_cast] theorem t83 : ti Tryz.prog 83 = ⟨.func, 1, 8, some (.con .nilFunc)⟩ := by kernel_rfl
@[push_cast] theorem t84 : ti Tryz.prog 84 = ⟨.func, 1, 8, some (.con .nilFunc)⟩ := by kernel_rfl
@[push_cast] theorem t85 : ti Tryz.prog 85 = ⟨.func, 1, 8, some (.con .nilFunc)⟩ := by kernel_rfl
@[push_cast] theorem t86 : ti Tryz.prog 86 = ⟨.func, 1, 8, some (.con .nilFunc)⟩ := by kernel_rfl
@[push_cast] theorem t87 : ti Tryz.prog 87 = ⟨.func, 1, 8, some (.con .nilFunc)⟩ := by kernel_rfl
@[push_cast] theorem t88 : ti Tryz.prog 88 = ⟨.func, 1, 8, some (.con .nilFunc)⟩ := by kernel_rfl
@[push_cast] theorem t89 : ti Tryz.prog 89 = ⟨.func, 1, 8, some (.con .nilFunc)⟩ := by kernel_rfl
@[push_cast] theorem t90 : ti Tryz.prog 90 = ⟨.func, 1, 8, some (.con .nilFunc)⟩ := by kernel_rfl
@[push_cast] theorem t91 : ti Tryz.prog 91 = ⟨.func, 1, 8, some (.con .nilFunc)⟩ := by kernel_rfl
@[push_cast] theorem t92 : ti Tryz.prog 92 = ⟨.func, 1, 8, some (.con .nilFunc)⟩ := by kernel_rfl
@[push_cast] theorem t93 : ti Tryz.prog 93 = ⟨.func, 1, 8, some (.con .nilFunc)⟩ := by kernel_rfl
@[push_cast] theorem t94 : ti Tryz.prog 94 = ⟨.func, 1, 8, some (.con .nilFunc)⟩ := by kernel_rfl
@[push_cast] theorem t95 : ti Tryz.prog 95 = ⟨.func, 1, 8, some (.con .nilFunc)⟩ := by kernel_rfl
@[push_cast] theorem t96 : ti Tryz.prog 96 = ⟨.func, 1, 8, some (.con .nilFunc)⟩ := by kernel_rfl
@[push_cast] theorem t98 : ti Tryz.prog 98 = ⟨.func, 1, 8, some (.con .nilFunc)⟩ := by kernel_rfl
@[push_cast] theorem t100 : ti Tryz.prog 100 = ⟨.func, 1, 8, some (.con .nilFunc)⟩ := by kernel_rfl
@[push_cast] theorem t101 : ti Tryz.prog 101 = ⟨(.ptr 61), 1, 8, some (.con (.pointer none))⟩ := by kernel_rfl
@[push_cast] theorem t102 : ti Tryz.prog 102 = ⟨.func, 1, 8, some (.con .nilFunc)⟩ := by kernel_rfl
@[push_cast] theorem t103 : ti Tryz.prog 103 = ⟨(.slice 105), 1, 24, some .nilsl⟩ := by kernel_rfl
@[push_cast] theorem t104 : ti Tryz.prog 104 = ⟨.func, 1, 8, some (.con .nilFunc)⟩ := by kernel_rfl
@[push_cast] theorem t105 : ti Tryz.prog 105 = ⟨(.arr 2 9), 2, 32, some (.agg [(.str []), (.str [])])⟩ := by kernel_rfl
@[push_cast] theorem t106 : ti Tryz.prog 106 = ⟨.func, 1, 8, some (.con .nilFunc)⟩ := by kernel_rfl
@[push_cast] theorem t107 : ti Tryz.prog 107 = ⟨.func, 1, 8, some (.con .nilFunc)⟩ := by kernel_rfl
@[push_cast] theorem t108 : ti Tryz.prog 108 = ⟨(.ptr 5), 1, 8, some (.con (.pointer none))⟩ := by kernel_rfl
@[push_cast] theorem t109 : ti Tryz.prog 109 = ⟨.func, 1, 8, some (.con .nilFunc)⟩ := by kernel_rfl
@[push_cast] theorem t111 : ti Tryz.prog 111 = ⟨.func, 1, 8, some (.con .nilFunc)⟩ := by kernel_rfl
@[push_cast] theorem t112 : ti Tryz.prog 112 = ⟨(.ptr 114), 1, 8, some (.con (.pointer none))⟩ := by kernel_rfl
@[push_cast] theorem t113 : ti Tryz.prog 113 = ⟨(.struct [(0, 9), (1, 3), (2, 36)]), 10, 136, some (.agg [(.str []), (.int .i64 0), (.str []), (.str []), (.str []), (.str []), (.str []), (.bool false), (.str []), (.bool false)])⟩ := by kernel_rfl
@[push_cast] theorem t114 : ti Tryz.prog 114 = ⟨(.struct [(0, 9), (1, 3), (2, 36)]), 10, 136, some (.agg [(.str []), (.int .i64 0), (.str []), (.str []), (.str []), (.str []), (.str []), (.bool false), (.str []), (.bool false)])⟩ := by kernel_rfl
@[push_cast] theorem t115 : ti Tryz.prog 115 = ⟨.func, 1, 8, some (.con .nilFunc)⟩ := by kernel_rfl
@[push_cast] theorem t116 : ti Tryz.prog 116 = ⟨.func, 1, 8, some (.con .nilFunc)⟩ := by kernel_rfl
@[push_cast] theorem t118 : ti Tryz.prog 118 = ⟨.func, 1, 8, some (.con .nilFunc)⟩ := by kernel_rfl
@[push_cast] theorem t119 : ti Tryz.prog 119 = ⟨.func, 1, 8, some (.con .nilFunc)⟩ := by kernel_rfl
@[push_cast] theorem t120 : ti Tryz.prog 120 = ⟨.func, 1, 8, some (.con .nilFunc)⟩ := by kernel_rfl
@[push_cast] theorem t121 : ti Tryz.prog 121 = ⟨.func, 1, 8, some (.con .nilFunc)⟩ := by kernel_rfl
@[push_cast] theorem t122 : ti Tryz.prog 122 = ⟨.func, 1, 8, some (.con .nilFunc)⟩ := by kernel_rfl
@[push_cast] theorem t123 : ti Tryz.prog 123 = ⟨.func, 1, 8, some (.con .nilFunc)⟩ := by kernel_rfl
@[push_cast] theorem t124 : ti Tryz.prog 124 = ⟨.func, 1, 8, some (.con .nilFunc)⟩ := by kernel_rfl
@[push_cast] theorem t125 : ti Tryz.prog 125 = ⟨.func, 1, 8, some (.con .nilFunc)⟩ := by kernel_rfl
@[push_cast] theorem t126 : ti Tryz.prog 126 = ⟨.func, 1, 8, some (.con .nilFunc)⟩ := by kernel_rfl
@[push_cast] theorem t127 : ti Tryz.prog 127 = ⟨.func, 1, 8, some (.con .nilFunc)⟩ := by kernel_rfl
@[push_cast] theorem t128 : ti Tryz.prog 128 = ⟨.func, 1, 8, some (.con .nilFunc)⟩ := by kernel_rfl
@[push_cast] theorem t129 : ti Tryz.prog 129 = ⟨.func, 1, 8, some (.con .nilFunc)⟩ := by kernel_rfl
@[push_cast] theorem t130 : ti Tryz.prog 130 = ⟨.func, 1, 8, some (.con .nilFunc)⟩ := by kernel_rfl
@[push_cast] theorem t131 : ti Tryz.prog 131 = ⟨.func, 1, 8, some (.con .nilFunc)⟩ := by kernel_rfl
@[push_cast] theorem t132 : ti Tryz.prog 132 = ⟨.other, 1, 8, some (.con (.pointer none))⟩ := by kernel_rfl
@[push_cast] theorem t133 : ti Tryz.prog 133 = ⟨.func, 1, 8, some (.con .nilFunc)⟩ := by kernel_rfl
@[push_cast] theorem t134 : ti Tryz.prog 134 = ⟨.func, 1, 8, some (.con .nilFunc)⟩ := by kernel_rfl
@[push_cast] theorem t135 : ti Tryz.prog 135 = ⟨.func, 1, 8, some (.con .nilFunc)⟩ := by kernel_rfl
@[push_cast] theorem t136 : ti Tryz.prog 136 = ⟨.func, 1, 8, some (.con .nilFunc)⟩ := by kernel_rfl
@[push_cast] theorem t137 : ti Tryz.prog 137 = ⟨.func, 1, 8, some (.con .nilFunc)⟩ := by kernel_rfl
@[push_cast] theorem t138 : ti Tryz.prog 138 = ⟨.func, 1, 8, some (.con .nilFunc)⟩ := by kernel_rfl
@[push_cast] theorem t139 : ti Tryz.prog 139 = ⟨(.ptr 141), 1, 8, some (.con (.pointer none))⟩ := by kernel_rfl
@[push_cast] theorem eq140 : EqOk Tryz.prog 140 = True := eq_true (eqOk_of (by kernel_rfl))
@[push_cast] theorem t140 : ti Tryz.prog 140 = ⟨(.struct [(0, 9), (1, 3), (2, 3)]), 3, 32, some (.agg [(.str []), (.int .i64 0), (.int .i64 0)])⟩ := by kernel_rfl
@[push_cast] theorem eq141 : EqOk Tryz.prog 141 = True := eq_true (eqOk_of (by kernel_rfl))
@[push_cast] theorem t141 : ti Tryz.prog 141 = ⟨(.struct [(0, 9), (1, 3), (2, 3)]), 3, 32, some (.agg [(.str []), (.int .i64 0), (.int .i64 0)])⟩ := by kernel_rfl
@[push_cast] theorem t142 : ti Tryz.prog 142 = ⟨.func, 1, 8, some (.con .nilFunc)⟩ := by kernel_rfl
@[push_cast] theorem t143 : ti Tryz.prog 143 = ⟨.func, 1, 8, some (.con .nilFunc)⟩ := by kernel_rfl
@[push_cast] theorem t144 : ti Tryz.prog 144 = ⟨.func, 1, 8, some (.con .nilFunc)⟩ := by kernel_rfl
@[push_cast] theorem t145 : ti Tryz.prog 145 = ⟨.func, 1, 8, some (.con .nilFunc)⟩ := by kernel_rfl
@[push_cast] theorem t146 : ti Tryz.prog 146 = ⟨.func, 1, 8, some (.con .nilFunc)⟩ := by kernel_rfl
@[push_cast] theorem t147 : ti Tryz.prog 147 = ⟨(.arr 256 4), 256, 256, some (.agg [(.bool false), (.bool false), (.bool false), (.bool false), (.bool false), (.bool false), (.bool false), (.bool false), (.bool false), (.bool false), (.bool false), (.bool false), (.bool false), (.bool false), (.bool false), (.bool false), (.bool false), (.bool false), (.bool false), (.bool false), (.bool false), (.bool false), (.bool false), (.bool false), (.bool false), (.bool false), (.bool false), (.bool false), (.bool false), (.bool false), (.bool false), (.bool false), (.bool false), (.bool false), (.bool false), (.bool false), (.bool false), (.bool false), (.bool false), (.bool false), (.bool false), (.bool false), (.bool false), (.bool false), (.bool false), (.bool false), (.bool false), (.bool false), (.bool false), (.bool false), (.bool false), (.bool false), (.bool false), (.bool false), (.bool false), (.bool false), (.bool false), (.bool false), (.bool false), (.bool false), (.bool false), (.bool false), (.bool false), (.bool false), (.bool false), (.bool false), (.bool false), (.bool false), (.bool false), (.bool false), (.bool false), (.bool false), (.bool false), (.bool false), (.bool false), (.bool false), (.bool false), (.bool false), (.bool false), (.bool false), (.bool false), (.bool false), (.bool false), (.bool false), (.bool false), (.bool false), (.bool false), (.bool false), (.bool false), (.bool false), (.bool false), (.bool false), (.bool false), (.bool false), (.bool false), (.bool false), (.bool false), (.bool false), (.bool false), (.bool false), (.bool false), (.bool false), (.bool false), (.bool false), (.bool false), (.bool false), (.bool false), (.bool false), (.bool false), (.bool false), (.bool false), (.bool false), (.bool false), (.bool false), (.bool false), (.bool false), (.bool false), (.bool false), (.bool false), (.bool false), (.bool false), (.bool false), (.bool false), (.bool false), (.bool false), (.bool false), (.bool false), (.bool false), (.bool false), (.bool false), (.bool false), (.bool false), (.bool false), (.bool false), (.bool false), (.bool false), (.bool false), (.bool false), (.bool false), (.bool false), (.bool false), (.bool false), (.bool false), (.bool false), (.bool false), (.bool false), (.bool false), (.bool false), (.bool false), (.bool false), (.bool false), (.bool false), (.bool false), (.bool false), (.bool false), (.bool false), (.bool false), (.bool false), (.bool false), (.bool false), (.bool false), (.bool false), (.bool false), (.bool false), (.bool false), (.bool false), (.bool false), (.bool false), (.bool false), (.bool false), (.bool false), (.bool false), (.bool false), (.bool false), (.bool false), (.bool false), (.bool false), (.bool false), (.bool false), (.bool false), (.bool false), (.bool false), (.bool false), (.bool false), (.bool false), (.bool false), (.bool false), (.bool false), (.bool false), (.bool false), (.bool false), (.bool false), (.bool false), (.bool false), (.bool false), (.bool false), (.bool false), (.bool false), (.bool false), (.bool false), (.bool false), (.bool false), (.bool false), (.bool false), (.bool false), (.bool false), (.bool false), (.bool false), (.bool false), (.bool false), (.bool false), (.bool false), (.bool false), (.bool false), (.bool false), (.bool false), (.bool false), (.bool false), (.bool false), (.bool false), (.bool false), (.bool false), (.bool false), (.bool false), (.bool false), (.bool false), (.bool false), (.bool false), (.bool false), (.bool false), (.bool false), (.bool false), (.bool false), (.bool false), (.bool false), (.bool false), (.bool false), (.bool false), (.bool false), (.bool false), (.bool false), (.bool false), (.bool false), (.bool false), (.bool false), (.bool false), (.bool false), (.bool false), (.bool false), (.bool false), (.bool false), (.bool false), (.bool false), (.bool false), (.bool false), (.bool false)])⟩ := by kernel_rfl
@[push_cast] theorem t148 : ti Tryz.prog 148 = ⟨(.arr 256 4), 256, 256, some (.agg [(.bool false), (.bool false), (.bool false), (.bool false), (.bool false), (.bool false), (.bool false), (.bool false), (.bool false), (.bool false), (.bool false), (.bool false), (.bool false), (.bool false), (.bool false), (.bool false), (.bool false), (.bool false), (.bool false), (.bool false), (.bool false), (.bool false), (.bool false), (.bool false), (.bool false), (.bool false), (.bool false), (.bool false), (.bool false), (.bool false), (.bool false), (.bool false), (.bool false), (.bool false), (.bool false), (.bool false), (.bool false), (.bool false), (.bool false), (.bool false), (.bool false), (.bool false), (.bool false), (.bool false), (.bool false), (.bool false), (.bool false), (.bool false), (.bool false), (.bool false), (.bool false), (.bool false), (.bool false), (.bool false), (.bool false), (.bool false), (.bool false), (.bool false), (.bool false), (.bool false), (.bool false), (.bool false), (.bool false), (.bool false), (.bool false), (.bool false), (.bool false), (.bool false), (.bool false), (.bool false), (.bool false), (.bool false), (.bool false), (.bool false), (.bool false), (.bool false), (.bool false), (.bool false), (.bool false), (.bool false), (.bool false), (.bool false), (.bool false), (.bool false), (.bool false), (.bool false), (.bool false), (.bool false), (.bool false), (.bool false), (.bool false), (.bool false), (.bool false), (.bool false), (.bool false), (.bool false), (.bool false), (.bool false), (.bool false), (.bool false), (.bool false), (.bool false), (.bool false), (.bool false), (.bool false), (.bool false), (.bool false), (.bool false), (.bool false), (.bool false), (.bool false), (.bool false), (.bool false), (.bool false), (.bool false), (.bool false), (.bool false), (.bool false), (.bool false), (.bool false), (.bool false), (.bool false), (.bool false), (.bool false), (.bool false), (.bool false), (.bool false), (.bool false), (.bool false), (.bool false), (.bool false), (.bool false), (.bool false), (.bool false), (.bool false), (.bool false), (.bool false), (.bool false), (.bool false), (.bool false), (.bool false), (.bool false), (.bool false), (.bool false), (.bool false), (.bool false), (.bool false), (.bool false), (.bool false), (.bool false), (.bool false), (.bool false), (.bool false), (.bool false), (.bool false), (.bool false), (.bool false), (.bool false), (.bool false), (.bool false), (.bool false), (.bool false), (.bool false), (.bool false), (.bool false), (.bool false), (.bool false), (.bool false), (.bool false), (.bool false), (.bool false), (.bool false), (.bool false), (.bool false), (.bool false), (.bool false), (.bool false), (.bool false), (.bool false), (.bool false), (.bool false), (.bool false), (.bool false), (.bool false), (.bool false), (.bool false), (.bool false), (.bool false), (.bool false), (.bool false), (.bool false), (.bool false), (.bool false), (.bool false), (.bool false), (.bool false), (.bool false), (.bool false), (.bool false), (.bool false), (.bool false), (.bool false), (.bool false), (.bool false), (.bool false), (.bool false), (.bool false), (.bool false), (.bool false), (.bool false), (.bool false), (.bool false), (.bool false), (.bool false), (.bool false), (.bool false), (.bool false), (.bool false), (.bool false), (.bool false), (.bool false), (.bool false), (.bool false), (.bool false), (.bool false), (.bool false), (.bool false), (.bool false), (.bool false), (.bool false), (.bool false), (.bool false), (.bool false), (.bool false), (.bool false), (.bool false), (.bool false), (.bool false), (.bool false), (.bool false), (.bool false), (.bool false), (.bool false), (.bool false), (.bool false), (.bool false), (.bool false), (.bool false), (.bool false), (.bool false), (.bool false), (.bool false), (.bool false), (.bool false), (.bool false), (.bool false)])⟩ := by kernel_rfl
@[push_cast] theorem t150 : ti Tryz.prog 150 = ⟨.func, 1, 8, some (.con .nilFunc)⟩ := by kernel_rfl
@[push_cast] theorem t151 : ti Tryz.prog 151 = ⟨.func, 1, 8, some (.con .nilFunc)⟩ := by kernel_rfl
@[push_cast] theorem t152 : ti Tryz.prog 152 = ⟨(.ptr 148), 1, 8, some (.con (.pointer none))⟩ := by kernel_rfl
@[push_cast] theorem t153 : ti Tryz.prog 153 = ⟨.func, 1, 8, some (.con .nilFunc)⟩ := by kernel_rfl
@[push_cast] theorem t154 : ti Tryz.prog 154 = ⟨(.slice 4), 1, 24, some .nilsl⟩ := by kernel_rfl
@[push_cast] theorem t155 : ti Tryz.prog 155 = ⟨.func, 1, 8, some (.con .nilFunc)⟩ := by kernel_rfl
@[push_cast] theorem t156 : ti Tryz.prog 156 = ⟨(.int .u64), 1, 8, some (.int .u64 0)⟩ := by kernel_rfl
@[push_cast] theorem t158 : ti Tryz.prog 158 = ⟨.func, 1, 8, some (.con .nilFunc)⟩ := by kernel_rfl
@[push_cast] theorem t159 : ti Tryz.prog 159 = ⟨.func, 1, 8, some (.con .nilFunc)⟩ := by kernel_rfl
@[push_cast] theorem t161 : ti Tryz.prog 161 = ⟨.func, 1, 8, some (.con .nilFunc)⟩ := by kernel_rfl
@[push_cast] theorem t162 : ti Tryz.prog 162 = ⟨.func, 1, 8, some (.con .nilFunc)⟩ := by kernel_rfl
@[push_cast] theorem t163 : ti Tryz.prog 163 = ⟨.func, 1, 8, some (.con .nilFunc)⟩ := by kernel_rfl
@[push_cast] theorem t164 : ti Tryz.prog 164 = ⟨.func, 1, 8, some (.con .nilFunc)⟩ := by kernel_rfl
@[push_cast] theorem t165 : ti Tryz.prog 165 = ⟨.func, 1, 8, some (.con .nilFunc)⟩ := by kernel_rfl
@[push_cast] theorem t166 : ti Tryz.prog 166 = ⟨.func, 1, 8, some (.con .nilFunc)⟩ := by kernel_rfl
@[push_cast] theorem t167 : ti Tryz.prog 167 = ⟨.func, 1, 8, some (.con .nilFunc)⟩ := by kernel_rfl
@[push_cast] theorem t168 : ti Tryz.prog 168 = ⟨(.arr 24 5), 24, 24, some (.agg [(.int .u8 0), (.int .u8 0), (.int .u8 0), (.int .u8 0), (.int .u8 0), (.int .u8 0), (.int .u8 0), (.int .u8 0), (.int .u8 0), (.int .u8 0), (.int .u8 0), (.int .u8 0), (.int .u8 0), (.int .u8 0), (.int .u8 0), (.int .u8 0), (.int .u8 0), (.int .u8 0), (.int .u8 0), (.int .u8 0), (.int .u8 0), (.int .u8 0), (.int .u8 0), (.int .u8 0)])⟩ := by kernel_rfl
@[push_cast] theorem t169 : ti Tryz.prog 169 = ⟨(.int .u64), 1, 8, some (.int .u64 0)⟩ := by kernel_rfl
@[push_cast] theorem t170 : ti Tryz.prog 170 = ⟨.func, 1, 8, some (.con .nilFunc)⟩ := by kernel_rfl
@[push_cast] theorem t171 : ti Tryz.prog 171 = ⟨.func, 1, 8, some (.con .nilFunc)⟩ := by kernel_rfl
@[push_cast] theorem t173 : ti Tryz.prog 173 = ⟨.func, 1, 8, some (.con .nilFunc)⟩ := by kernel_rfl
@[push_cast] theorem t174 : ti Tryz.prog 174 = ⟨.func, 1, 8, some (.con .nilFunc)⟩ := by kernel_rfl
@[push_cast] theorem t175 : ti Tryz.prog 175 = ⟨.func, 1, 8, some (.con .nilFunc)⟩ := by kernel_rfl
@[push_cast] theorem t176 : ti Tryz.prog 176 = ⟨(.int .i64), 1, 8, some (.int .i64 0)⟩ := by kernel_rfl
@[push_cast] theorem t178 : ti Tryz.prog 178 = ⟨.func, 1, 8, some (.con .nilFunc)⟩ := by kernel_rfl
@[push_cast] theorem t179 : ti Tryz.prog 179 = ⟨(.ptr 197), 1, 8, some (.con (.pointer none))⟩ := by kernel_rfl
@[push_cast] theorem t180 : ti Tryz.prog 180 = ⟨.func, 1, 8, some (.con .nilFunc)⟩ := by kernel_rfl
@[push_cast] theorem t181 : ti Tryz.prog 181 = ⟨.func, 1, 8, some (.con .nilFunc)⟩ := by kernel_rfl
@[push_cast] theorem t182 : ti Tryz.prog 182 = ⟨.func, 1, 8, some (.con .nilFunc)⟩ := by kernel_rfl
@[push_cast] theorem t183 : ti Tryz.prog 183 = ⟨(.int .u32), 1, 4, some (.int .u32 0)⟩ := by kernel_rfl
@[push_cast] theorem t185 : ti Tryz.prog 185 = ⟨.func, 1, 8, some (.con .nilFunc)⟩ := by kernel_rfl
@[push_cast] theorem t187 : ti Tryz.prog 187 = ⟨.func, 1, 8, some (.con .nilFunc)⟩ := by kernel_rfl
@[push_cast] theorem t188 : ti Tryz.prog 188 = ⟨.func, 1, 8, some (.con .nilFunc)⟩ := by kernel_rfl
@[push_cast] theorem t189 : ti Tryz.prog 189 = ⟨.func, 1, 8, some (.con .nilFunc)⟩ := by kernel_rfl
@[push_cast] theorem t190 : ti Tryz.prog 190 = ⟨(.arr 20 169), 20, 160, some (.agg [(.int .u64 0), (.int .u64 0), (.int .u64 0), (.int .u64 0), (.int .u64 0), (.int .u64 0), (.int .u64 0), (.int .u64 0), (.int .u64 0), (.int .u64 0), (.int .u64 0), (.int .u64 0), (.int .u64 0), (.int .u64 0), (.int .u64 0), (.int .u64 0), (.int .u64 0), (.int .u64 0), (.int .u64 0), (.int .u64 0)])⟩ := by kernel_rfl
@[push_cast] theorem t191 : ti Tryz.prog 191 = ⟨(.arr 65 5), 65, 65, some (.agg [(.int .u8 0), (.int .u8 0), (.int .u8 0), (.int .u8 0), (.int .u8 0), (.int .u8 0), (.int .u8 0), (.int .u8 0), (.int .u8 0), (.int .u8 0), (.int .u8 0), (.int .u8 0), (.int .u8 0), (.int .u8 0), (.int .u8 0), (.int .u8 0), (.int .u8 0), (.int .u8 0), (.int .u8 0), (.int .u8 0), (.int .u8 0), (.int .u8 0), (.int .u8 0), (.int .u8 0), (.int .u8 0), (.int .u8 0), (.int .u8 0), (.int .u8 0), (.int .u8 0), (.int .u8 0), (.int .u8 0), (.int .u8 0), (.int .u8 0), (.int .u8 0), (.int .u8 0), (.int .u8 0), (.int .u8 0), (.int .u8 0), (.int .u8 0), (.int .u8 0), (.int .u8 0), (.int .u8 0), (.int .u8 0), (.int .u8 0), (.int .u8 0), (.int .u8 0), (.int .u8 0), (.int .u8 0), (.int .u8 0), (.int .u8 0), (.int .u8 0), (.int .u8 0), (.int .u8 0), (.int .u8 0), (.int .u8 0), (.int .u8 0), (.int .u8 0), (.int .u8 0), (.int .u8 0), (.int .u8 0), (.int .u8 0), (.int .u8 0), (.int .u8 0), (.int .u8 0), (.int .u8 0)])⟩ := by kernel_rfl
@[push_cast] theorem t192 : ti Tryz.prog 192 = ⟨.func, 1, 8, some (.con .nilFunc)⟩ := by kernel_rfl
@[push_cast] theorem t193 : ti Tryz.prog 193 = ⟨.func, 1, 8, some (.con .nilFunc)⟩ := by kernel_rfl
@[push_cast] theorem t195 : ti Tryz.prog 195 = ⟨.func, 1, 8, some (.con .nilFunc)⟩ := by kernel_rfl
@[push_cast] theorem t196 : ti Tryz.prog 196 = ⟨(.struct [(0, 9), (1, 9), (2, 71)]), 3, 48, some (.agg [(.str []), (.str []), (.con .nilIface)])⟩ := by kernel_rfl
@[push_cast] theorem t197 : ti Tryz.prog 197 = ⟨(.struct [(0, 9), (1, 9), (2, 71)]), 3, 48, some (.agg [(.str []), (.str []), (.con .nilIface)])⟩ := by kernel_rfl
@[push_cast] theorem t198 : ti Tryz.prog 198 = ⟨.func, 1, 8, some (.con .nilFunc)⟩ := by kernel_rfl
@[push_cast] theorem t199 : ti Tryz.prog 199 = ⟨.func, 1, 8, some (.con .nilFunc)⟩ := by kernel_rfl
@[push_cast] theorem t200 : ti Tryz.prog 200 = ⟨(.arr 256 5), 256, 256, some (.agg [(.int .u8 0), (.int .u8 0), (.int .u8 0), (.int .u8 0), (.int .u8 0), (.int .u8 0), (.int .u8 0), (.int .u8 0), (.int .u8 0), (.int .u8 0), (.int .u8 0), (.int .u8 0), (.int .u8 0), (.int .u8 0), (.int .u8 0), (.int .u8 0), (.int .u8 0), (.int .u8 0), (.int .u8 0), (.int .u8 0), (.int .u8 0), (.int .u8 0), (.int .u8 0), (.int .u8 0), (.int .u8 0), (.int .u8 0), (.int .u8 0), (.int .u8 0), (.int .u8 0), (.int .u8 0), (.int .u8 0), (.int .u8 0), (.int .u8 0), (.int .u8 0), (.int .u8 0), (.int .u8 0), (.int .u8 0), (.int .u8 0), (.int .u8 0), (.int .u8 0), (.int .u8 0), (.int .u8 0), (.int .u8 0), (.int .u8 0), (.int .u8 0), (.int .u8 0), (.int .u8 0), (.int .u8 0), (.int .u8 0), (.int .u8 0), (.int .u8 0), (.int .u8 0), (.int .u8 0), (.int .u8 0), (.int .u8 0), (.int .u8 0), (.int .u8 0), (.int .u8 0), (.int .u8 0), (.int .u8 0), (.int .u8 0), (.int .u8 0), (.int .u8 0), (.int .u8 0), (.int .u8 0), (.int .u8 0), (.int .u8 0), (.int .u8 0), (.int .u8 0), (.int .u8 0), (.int .u8 0), (.int .u8 0), (.int .u8 0), (.int .u8 0), (.int .u8 0), (.int .u8 0), (.int .u8 0), (.int .u8 0), (.int .u8 0), (.int .u8 0), (.int .u8 0), (.int .u8 0), (.int .u8 0), (.int .u8 0), (.int .u8 0), (.int .u8 0), (.int .u8 0), (.int .u8 0), (.int .u8 0), (.int .u8 0), (.int .u8 0), (.int .u8 0), (.int .u8 0), (.int .u8 0), (.int .u8 0), (.int .u8 0), (.int .u8 0), (.int .u8 0), (.int .u8 0), (.int .u8 0), (.int .u8 0), (.int .u8 0), (.int .u8 0), (.int .u8 0), (.int .u8 0), (.int .u8 0), (.int .u8 0), (.int .u8 0), (.int .u8 0), (.int .u8 0), (.int .u8 0), (.int .u8 0), (.int .u8 0), (.int .u8 0), (.int .u8 0), (.int .u8 0), (.int .u8 0), (.int .u8 0), (.int .u8 0), (.int .u8 0), (.int .u8 0), (.int .u8 0), (.int .u8 0), (.int .u8 0), (.int .u8 0), (.int .u8 0), (.int .u8 0), (.int .u8 0), (.int .u8 0), (.int .u8 0), (.int .u8 0), (.int .u8 0), (.int .u8 0), (.int .u8 0), (.int .u8 0), (.int .u8 0), (.int .u8 0), (.int .u8 0), (.int .u8 0), (.int .u8 0), (.int .u8 0), (.int .u8 0), (.int .u8 0), (.int .u8 0), (.int .u8 0), (.int .u8 0), (.int .u8 0), (.int .u8 0), (.int .u8 0), (.int .u8 0), (.int .u8 0), (.int .u8 0), (.int .u8 0), (.int .u8 0), (.int .u8 0), (.int .u8 0), (.int .u8 0), (.int .u8 0), (.int .u8 0), (.int .u8 0), (.int .u8 0), (.int .u8 0), (.int .u8 0), (.int .u8 0), (.int .u8 0), (.int .u8 0), (.int .u8 0), (.int .u8 0), (.int .u8 0), (.int .u8 0), (.int .u8 0), (.int .u8 0), (.int .u8 0), (.int .u8 0), (.int .u8 0), (.int .u8 0), (.int .u8 0), (.int .u8 0), (.int .u8 0), (.int .u8 0), (.int .u8 0), (.int .u8 0), (.int .u8 0), (.int .u8 0), (.int .u8 0), (.int .u8 0), (.int .u8 0), (.int .u8 0), (.int .u8 0), (.int .u8 0), (.int .u8 0), (.int .u8 0), (.int .u8 0), (.int .u8 0), (.int .u8 0), (.int .u8 0), (.int .u8 0), (.int .u8 0), (.int .u8 0), (.int .u8 0), (.int .u8 0), (.int .u8 0), (.int .u8 0), (.int .u8 0), (.int .u8 0), (.int .u8 0), (.int .u8 0), (.int .u8 0), (.int .u8 0), (.int .u8 0), (.int .u8 0), (.int .u8 0), (.int .u8 0), (.int .u8 0), (.int .u8 0), (.int .u8 0), (.int .u8 0), (.int .u8 0), (.int .u8 0), (.int .u8 0), (.int .u8 0), (.int .u8 0), (.int .u8 0), (.int .u8 0), (.int .u8 0), (.int .u8 0), (.int .u8 0), (.int .u8 0), (.int .u8 0), (.int .u8 0), (.int .u8 0), (.int .u8 0), (.int .u8 0), (.int .u8 0), (.int .u8 0), (.int .u8 0), (.int .u8 0), (.int .u8 0), (.int .u8 0), (.int .u8 0), (.int .u8 0), (.int .u8 0), (.int .u8 0), (.int .u8 0), (.int .u8 0), (.int .u8 0), (.int .u8 0), (.int .u8 0), (.int .u8 0), (.int .u8 0), (.int .u8 0), (.int .u8 0), (.int .u8 0), (.int .u8 0), (.int .u8 0), (.int .u8 0)])⟩ := by kernel_rfl
@[push_cast] theorem eq201 : EqOk Tryz.prog 201 = True := eq_true (eqOk_of (by kernel_rfl))
@[push_cast] theorem t201 : ti Tryz.prog 201 = ⟨(.struct [(0, 5), (1, 5)]), 2, 2, some (.agg [(.int .u8 0), (.int .u8 0)])⟩ := by kernel_rfl
@[push_cast] theorem eq202 : EqOk Tryz.prog 202 = True := eq_true (eqOk_of (by kernel_rfl))
@[push_cast] theorem t202 : ti Tryz.prog 202 = ⟨(.struct [(0, 5), (1, 5)]), 2, 2, some (.agg [(.int .u8 0), (.int .u8 0)])⟩ := by kernel_rfl
@[push_cast] theorem t203 : ti Tryz.prog 203 = ⟨(.arr 16 202), 32, 32, some (.agg [(.int .u8 0), (.int .u8 0), (.int .u8 0), (.int .u8 0), (.int .u8 0), (.int .u8 0), (.int .u8 0), (.int .u8 0), (.int .u8 0), (.int .u8 0), (.int .u8 0), (.int .u8 0), (.int .u8 0), (.int .u8 0), (.int .u8 0), (.int .u8 0), (.int .u8 0), (.int .u8 0), (.int .u8 0), (.int .u8 0), (.int .u8 0), (.int .u8 0), (.int .u8 0), (.int .u8 0), (.int .u8 0), (.int .u8 0), (.int .u8 0), (.int .u8 0), (.int .u8 0), (.int .u8 0), (.int .u8 0), (.int .u8 0)])⟩ := by kernel_rfl
@[push_cast] theorem t204 : ti Tryz.prog 204 = ⟨.func, 1, 8, some (.con .nilFunc)⟩ := by kernel_rfl
@[push_cast] theorem t205 : ti Tryz.prog 205 = ⟨.func, 1, 8, some (.con .nilFunc)⟩ := by kernel_rfl
@[push_cast] theorem t206 : ti Tryz.prog 206 = ⟨(.ptr 208), 1, 8, some (.con (.pointer none))⟩ := by kernel_rfl
@[push_cast] theorem eq207 : EqOk Tryz.prog 207 = True := eq_true (eqOk_of (by kernel_rfl))
@[push_cast] theorem t207 : ti Tryz.prog 207 = ⟨(.struct [(0, 9)]), 1, 16, some (.agg [(.str [])])⟩ := by kernel_rfl
@[push_cast] theorem eq208 : EqOk Tryz.prog 208 = True := eq_true (eqOk_of (by kernel_rfl))
@[push_cast] theorem t208 : ti Tryz.prog 208 = ⟨(.struct [(0, 9)]), 1, 16, some (.agg [(.str [])])⟩ := by kernel_rfl
@[push_cast] theorem t209 : ti Tryz.prog 209 = ⟨.func, 1, 8, some (.con .nilFunc)⟩ := by kernel_rfl
@[push_cast] theorem t210 : ti Tryz.prog 210 = ⟨(.arr 32 5), 32, 32, some (.agg [(.int .u8 0), (.int .u8 0), (.int .u8 0), (.int .u8 0), (.int .u8 0), (.int .u8 0), (.int .u8 0), (.int .u8 0), (.int .u8 0), (.int .u8 0), (.int .u8 0), (.int .u8 0), (.int .u8 0), (.int .u8 0), (.int .u8 0), (.int .u8 0), (.int .u8 0), (.int .u8 0), (.int .u8 0), (.int .u8 0), (.int .u8 0), (.int .u8 0), (.int .u8 0), (.int .u8 0), (.int .u8 0), (.int .u8 0), (.int .u8 0), (.int .u8 0), (.int .u8 0), (.int .u8 0), (.int .u8 0), (.int .u8 0)])⟩ := by kernel_rfl
@[push_cast] theorem t211 : ti Tryz.prog 211 = ⟨(.arr 64 5), 64, 64, some (.agg [(.int .u8 0), (.int .u8 0), (.int .u8 0), (.int .u8 0), (.int .u8 0), (.int .u8 0), (.int .u8 0), (.int .u8 0), (.int .u8 0), (.int .u8 0), (.int .u8 0), (.int .u8 0), (.int .u8 0), (.int .u8 0), (.int .u8 0), (.int .u8 0), (.int .u8 0), (.int .u8 0), (.int .u8 0), (.int .u8 0), (.int .u8 0), (.int .u8 0), (.int .u8 0), (.int .u8 0), (.int .u8 0), (.int .u8 0), (.int .u8 0), (.int .u8 0), (.int .u8 0), (.int .u8 0), (.int .u8 0), (.int .u8 0), (.int .u8 0), (.int .u8 0), (.int .u8 0), (.int .u8 0), (.int .u8 0), (.int .u8 0), (.int .u8 0), (.int .u8 0), (.int .u8 0), (.int .u8 0), (.int .u8 0), (.int .u8 0), (.int .u8 0), (.int .u8 0), (.int .u8 0), (.int .u8 0), (.int .u8 0), (.int .u8 0), (.int .u8 0), (.int .u8 0), (.int .u8 0), (.int .u8 0), (.int .u8 0), (.int .u8 0), (.int .u8 0), (.int .u8 0), (.int .u8 0), (.int .u8 0), (.int .u8 0), (.int .u8 0), (.int .u8 0), (.int .u8 0)])⟩ := by kernel_rfl
@[push_cast] theorem t212 : ti Tryz.prog 212 = ⟨(.struct [(0, 17), (1, 17), (2, 17), (3, 9)]), 4, 40, some (.agg [(.con (.pointer none)), (.con (.pointer none)), (.con (.pointer none)), (.str [])])⟩ := by kernel_rfl
@[push_cast] theorem t213 : ti Tryz.prog 213 = ⟨(.struct [(0, 17), (1, 17), (2, 17), (3, 9)]), 4, 40, some (.agg [(.con (.pointer none)), (.con (.pointer none)), (.con (.pointer none)), (.str [])])⟩ := by kernel_rfl
@[push_cast] theorem t214 : ti Tryz.prog 214 = ⟨(.arr 0 16), 0, 0, some (.agg [])⟩ := by kernel_rfl
@[push_cast] theorem t215 : ti Tryz.prog 215 = ⟨(.struct [(0, 214)]), 0, 0, some (.agg [])⟩ := by kernel_rfl
@[push_cast] theorem t216 : ti Tryz.prog 216 = ⟨(.struct [(0, 214)]), 0, 0, some (.agg [])⟩ := by kernel_rfl
@[push_cast] theorem t217 : ti Tryz.prog 217 = ⟨(.int .u8), 1, 1, some (.int .u8 0)⟩ := by kernel_rfl
@[push_cast] theorem t218 : ti Tryz.prog 218 = ⟨(.int .u8), 1, 1, some (.int .u8 0)⟩ := by kernel_rfl
@[push_cast] theorem t219 : ti Tryz.prog 219 = ⟨.func, 1, 8, some (.con .nilFunc)⟩ := by kernel_rfl
@[push_cast] theorem t220 : ti Tryz.prog 220 = ⟨(.int .i32), 1, 4, some (.int .i32 0)⟩ := by kernel_rfl
@[push_cast] theorem t221 : ti Tryz.prog 221 = ⟨(.int .i32), 1, 4, some (.int .i32 0)⟩ := by kernel_rfl
@[push_cast] theorem t222 : ti Tryz.prog 222 = ⟨(.struct [(0, 12), (1, 12), (2, 183), (3, 217), (4, 5), (5, 5), (6, 218), (7, 219), (8, 108), (9, 220), (10, 221)]), 11, 48, some (.agg [(.int .u64 0), (.int .u64 0), (.int .u32 0), (.int .u8 0), (.int .u8 0), (.int .u8 0), (.int .u8 0), (.con .nilFunc), (.con (.pointer none)), (.int .i32 0), (.int .i32 0)])⟩ := by kernel_rfl
@[push_cast] theorem t223 : ti Tryz.prog 223 = ⟨(.struct [(0, 12), (1, 12), (2, 183), (3, 217), (4, 5), (5, 5), (6, 218), (7, 219), (8, 108), (9, 220), (10, 221)]), 11, 48, some (.agg [(.int .u64 0), (.int .u64 0), (.int .u32 0), (.int .u8 0), (.int .u8 0), (.int .u8 0), (.int .u8 0), (.con .nilFunc), (.con (.pointer none)), (.int .i32 0), (.int .i32 0)])⟩ := by kernel_rfl
theorem n2 : Tryz.prog.funcs[2]? = some Tryz.f2 := by kernel_rfl
theorem e2 : entB Tryz.prog 2 = true := by kernel_rfl
theorem o2 : bodyOk (anL []) Tryz.f2 = true := by kernel_rfl
theorem w2 {ct : Ct} (ow : Nat → Bool) (ad : List Adj) {code : Code} (hb : Tryz.f2.body = some code) (hc : CtOk pg ct) {args : List V} {r : V} (ha : Nat.ble args.length 1 = true) (hr : r.noId = true) (h : exec ⟨pg, ct, ow, 1, anL [], true, none⟩ code ⟨argE args, hOf []⟩ (PostF pg.prog ad [] r [])) : PCall pg 2 args r := pcall_inF ad hc fol 2 n2 hb rfl e2 rfl (bodyOk_at o2 hb rfl) ha hr h
theorem n3 : Tryz.prog.funcs[3]? = some Tryz.f3 := by kernel_rfl
theorem e3 : entB Tryz.prog 3 = true := by kernel_rfl
theorem o3 : bodyOk (anL []) Tryz.f3 = true := by kernel_rfl
theorem n4 : Tryz.prog.funcs[4]? = some Tryz.f4 := by kernel_rfl
theorem e4 : entB Tryz.prog 4 = true := by kernel_rfl
theorem o4 : bodyOk (anL [(3, [0, 1, 0, 7, 15, 31, 63, 63, 255, 511, 1023, 2047, 2047, 8191, 16383, 32767, 65535, 131071, 262143])]) Tryz.f4 = true := by kernel_rfl
theorem n5 : Tryz.prog.funcs[5]? = some Tryz.f5 := by kernel_rfl
theorem e5 : entB Tryz.prog 5 = true := by kernel_rfl
theorem o5 : bodyOk (anL []) Tryz.f5 = true := by kernel_rfl
theorem w5 {ct : Ct} (ow : Nat → Bool) (ad : List Adj) {code : Code} (hb : Tryz.f5.body = some code) (hc : CtOk pg ct) {args : List V} {r : V} (ha : Nat.ble args.length 96 = true) (hr : r.noId = true) (h : exec ⟨pg, ct, ow, 96, anL [], true, none⟩ code ⟨argE args, hOf []⟩ (PostF pg.prog ad [.tmp 10] r [])) : PCall pg 5 args r := pcall_inF ad hc fol 5 n5 hb rfl e5 rfl (bodyOk_at o5 hb rfl) ha hr h
theorem n6 : Tryz.prog.funcs[6]? = some Tryz.f6 := by kernel_rfl
theorem e6 : entB Tryz.prog 6 = true := by kernel_rfl
theorem o6 : bodyOk (anL [(7, [0, 0, 2, 6, 14, 1, 63, 127]), (13, [0, 0, 2, 6, 14, 1, 63, 127]), (16, [0, 0, 2, 6, 14, 1, 63, 127]), (20, [0, 0, 2, 6, 14, 1, 63, 127])]) Tryz.f6 = true := by kernel_rfl
theorem n7 : Tryz.prog.funcs[7]? = some Tryz.f7 := by kernel_rfl
theorem e7 : entB Tryz.prog 7 = true := by kernel_rfl
theorem o7 : bodyOk (anL [(7, [0, 1, 0, 0, 8, 28, 60, 127, 255, 511]), (13, [0, 0, 2, 1, 15, 31])]) Tryz.f7 = true := by kernel_rfl
theorem n8 : Tryz.prog.funcs[8]? = some Tryz.f8 := by kernel_rfl
theorem e8 : entB Tryz.prog 8 = true := by kernel_rfl
theorem o8 : bodyOk (anL []) Tryz.f8 = true := by kernel_rfl
theorem w8 {ct : Ct} (ow : Nat → Bool) (ad : List Adj) {code : Code} (hb : Tryz.f8.body = some code) (hc : CtOk pg ct) {args : List V} {r : V} (ha : Nat.ble args.length 17 = true) (hr : r.noId = true) (h : exec ⟨pg, ct, ow, 17, anL [], true, none⟩ code ⟨argE args, hOf []⟩ (PostF pg.prog ad [.tmp 4] r [])) : PCall pg 8 args r := pcall_inF ad hc fol 8 n8 hb rfl e8 rfl (bodyOk_at o8 hb rfl) ha hr h
theorem n9 : Tryz.prog.funcs[9]? = some Tryz.f9 := by kernel_rfl
theorem e9 : entB Tryz.prog 9 = true := by kernel_rfl
theorem o9 : bodyOk (anL []) Tryz.f9 = true := by kernel_rfl
theorem w9 {ct : Ct} (ow : Nat → Bool) (ad : List Adj) {code : Code} (hb : Tryz.f9.body = some code) (hc : CtOk pg ct) {args : List V} {r : V} (ha : Nat.ble args.length 12 = true) (hr : r.noId = true) (h : exec ⟨pg, ct, ow, 12, anL [], true, none⟩ code ⟨argE args, hOf []⟩ (PostF pg.prog ad [.tmp 0] r [])) : PCall pg 9 args r := pcall_inF ad hc fol 9 n9 hb rfl e9 rfl (bodyOk_at o9 hb rfl) ha hr h
theorem n12 : Tryz.prog.funcs[12]? = some Tryz.f12 := by kernel_rfl
theorem e12 : entB Tryz.prog 12 = true := by kernel_rfl
theorem o12 : bodyOk (anL []) Tryz.f12 = true := by kernel_rfl
theorem w12 {ct : Ct} (ow : Nat → Bool) (ad : List Adj) {code : Code} (hb : Tryz.f12.body = some code) (hc : CtOk pg ct) {args : List V} {r : V} (ha : Nat.ble args.length 54 = true) (hr : r.noId = true) (h : exec ⟨pg, ct, ow, 54, anL [], true, none⟩ code ⟨argE args, hOf []⟩ (PostF pg.prog ad [.tmp 2] r [])) : PCall pg 12 args r := pcall_inF ad hc fol 12 n12 hb rfl e12 rfl (bodyOk_at o12 hb rfl) ha hr h
theorem n13 : Tryz.prog.funcs[13]? = some Tryz.f13 := by kernel_rfl
theorem e13 : entB Tryz.prog 13 = true := by kernel_rfl
theorem o13 : bodyOk (anL []) Tryz.f13 = true := by kernel_rfl
theorem w13 {ct : Ct} (ow : Nat → Bool) (ad : List Adj) {code : Code} (hb : Tryz.f13.body = some code) (hc : CtOk pg ct) {args : List V} {r : V} (ha : Nat.ble args.length 24 = true) (hr : r.noId = true) (h : exec ⟨pg, ct, ow, 24, anL [], true, none⟩ code ⟨argE args, hOf []⟩ (PostF pg.prog ad [.tmp 2] r [])) : PCall pg 13 args r := pcall_inF ad hc fol 13 n13 hb rfl e13 rfl (bodyOk_at o13 hb rfl) ha hr h
theorem n14 : Tryz.prog.funcs[14]? = some Tryz.f14 := by kernel_rfl
theorem e14 : entB Tryz.prog 14 = true := by kernel_rfl
theorem o14 : bodyOk (anL [(7, [0, 1, 0, 4, 12, 28, 63, 127])]) Tryz.f14 = true := by kernel_rfl
theorem w14 {ct : Ct} (ow : Nat → Bool) (ad : List Adj) {code : Code} (hb : Tryz.f14.body = some code) (hc : CtOk pg ct) {args : List V} {r : V} (ha : Nat.ble args.length 76 = true) (hr : r.noId = true) (h : exec ⟨pg, ct, ow, 76, anL [(7, [0, 1, 0, 4, 12, 28, 63, 127])], true, none⟩ code ⟨argE args, hOf []⟩ (PostF pg.prog ad [.tmp 4, .tmp 5] r [])) : PCall pg 14 args r := pcall_inF ad hc fol 14 n14 hb rfl e14 rfl (bodyOk_at o14 hb rfl) ha hr h
theorem n15 : Tryz.prog.funcs[15]? = some Tryz.f15 := by kernel_rfl
theorem e15 : entB Tryz.prog 15 = true := by kernel_rfl
theorem o15 : bodyOk (anL [(10, [0, 1, 0, 4, 12, 28, 63, 127])]) Tryz.f15 = true := by kernel_rfl
theorem w15 {ct : Ct} (ow : Nat → Bool) (ad : List Adj) {code : Code} (hb : Tryz.f15.body = some code) (hc : CtOk pg ct) {args : List V} {r : V} (ha : Nat.ble args.length 99 = true) (hr : r.noId = true) (h : exec ⟨pg, ct, ow, 99, anL [(10, [0, 1, 0, 4, 12, 28, 63, 127])], true, none⟩ code ⟨argE args, hOf []⟩ (PostF pg.prog ad [.tmp 4, .tmp 5] r [])) : PCall pg 15 args r := pcall_inF ad hc fol 15 n15 hb rfl e15 rfl (bodyOk_at o15 hb rfl) ha hr h
theorem n16 : Tryz.prog.funcs[16]? = some Tryz.f16 := by kernel_rfl
theorem e16 : entB Tryz.prog 16 = true := by kernel_rfl
theorem o16 : bodyOk (anL [(6, [0, 0, 3, 7, 0, 0, 48, 112, 255])]) Tryz.f16 = true := by kernel_rfl
theorem w16 {ct : Ct} (ow : Nat → Bool) (ad : List Adj) {code : Code} (hb : Tryz.f16.body = some code) (hc : CtOk pg ct) {args : List V} {r : V} (ha : Nat.ble args.length 26 = true) (hr : r.noId = true) (h : exec ⟨pg, ct, ow, 26, anL [(6, [0, 0, 3, 7, 0, 0, 48, 112, 255])], true, none⟩ code ⟨argE args, hOf []⟩ (PostF pg.prog ad [.tmp 4] r [])) : PCall pg 16 args r := pcall_inF ad hc fol 16 n16 hb rfl e16 rfl (bodyOk_at o16 hb rfl) ha hr h
theorem n17 : Tryz.prog.funcs[17]? = some Tryz.f17 := by kernel_rfl
theorem e17 : entB Tryz.prog 17 = true := by kernel_rfl
theorem o17 : bodyOk (anL [(4, [0, 0, 0, 5, 15]), (6, [0, 0, 3, 7]), (8, [0, 0, 3, 7]), (13, [0, 0, 2, 6, 14, 31, 63]), (14, [0, 0, 2, 6, 15, 31, 63, 0, 255]), (23, [0, 0, 0, 5, 15]), (24, [0, 0, 1, 7, 15])]) Tryz.f17 = true := by kernel_rfl
theorem w17 {ct : Ct} (ow : Nat → Bool) (ad : List Adj) {code : Code} (hb : Tryz.f17.body = some code) (hc : CtOk pg ct) {args : List V} {r : V} (ha : Nat.ble args.length 81 = true) (hr : r.noId = true) (h : exec ⟨pg, ct, ow, 81, anL [(4, [0, 0, 0, 5, 15]), (6, [0, 0, 3, 7]), (8, [0, 0, 3, 7]), (13, [0, 0, 2, 6, 14, 31, 63]), (14, [0, 0, 2, 6, 15, 31, 63, 0, 255]), (23, [0, 0, 0, 5, 15]), (24, [0, 0, 1, 7, 15])], true, none⟩ code ⟨argE args, hOf []⟩ (PostF pg.prog ad [.tmp 6, .cell 7 24, .tmp 8] r [])) : PCall pg 17 args r := pcall_inF ad hc fol 17 n17 hb rfl e17 rfl (bodyOk_at o17 hb rfl) ha hr h
theorem n18 : Tryz.prog.funcs[18]? = some Tryz.f18 := by kernel_rfl
theorem e18 : entB Tryz.prog 18 = true := by kernel_rfl
theorem o18 : bodyOk (anL [(20, [0, 0, 2, 6, 15, 0, 32, 0, 128, 511, 1023, 2047, 4095]), (24, [0, 0, 1, 7, 15])]) Tryz.f18 = true := by kernel_rfl
theorem w18 {ct : Ct} (ow : Nat → Bool) (ad : List Adj) {code : Code} (hb : Tryz.f18.body = some code) (hc : CtOk pg ct) {args : List V} {r : V} (ha : Nat.ble args.length 92 = true) (hr : r.noId = true) (h : exec ⟨pg, ct, ow, 92, anL [(20, [0, 0, 2, 6, 15, 0, 32, 0, 128, 511, 1023, 2047, 4095]), (24, [0, 0, 1, 7, 15])], true, none⟩ code ⟨argE args, hOf []⟩ (PostF pg.prog ad [.tmp 6, .cell 7 24, .tmp 8] r [])) : PCall pg 18 args r := pcall_inF ad hc fol 18 n18 hb rfl e18 rfl (bodyOk_at o18 hb rfl) ha hr h
theorem n19 : Tryz.prog.funcs[19]? = some Tryz.f19 := by kernel_rfl
theorem e19 : entB Tryz.prog 19 = true := by kernel_rfl
theorem o19 : bodyOk (anL [(6, [0, 0, 3, 7, 0, 0, 48, 112, 255, 511])]) Tryz.f19 = true := by kernel_rfl
theorem w19 {ct : Ct} (ow : Nat → Bool) (ad : List Adj) {code : Code} (hb : Tryz.f19.body = some code) (hc : CtOk pg ct) {args : List V} {r : V} (ha : Nat.ble args.length 27 = true) (hr : r.noId = true) (h : exec ⟨pg, ct, ow, 27, anL [(6, [0, 0, 3, 7, 0, 0, 48, 112, 255, 511])], true, none⟩ code ⟨argE args, hOf []⟩ (PostF pg.prog ad [.tmp 4] r [])) : PCall pg 19 args r := pcall_inF ad hc fol 19 n19 hb rfl e19 rfl (bodyOk_at o19 hb rfl) ha hr h
theorem n20 : Tryz.prog.funcs[20]? = some Tryz.f20 := by kernel_rfl
theorem e20 : entB Tryz.prog 20 = true := by kernel_rfl
theorem o20 : bodyOk (anL []) Tryz.f20 = true := by kernel_rfl
theorem w20 {ct : Ct} (ow : Nat → Bool) (ad : List Adj) {code : Code} (hb : Tryz.f20.body = some code) (hc : CtOk pg ct) {args : List V} {r : V} (ha : Nat.ble args.length 60 = true) (hr : r.noId = true) (h : exec ⟨pg, ct, ow, 60, anL [], true, none⟩ code ⟨argE args, hOf []⟩ (PostF pg.prog ad [.tmp 4, .tmp 5] r [])) : PCall pg 20 args r := pcall_inF ad hc fol 20 n20 hb rfl e20 rfl (bodyOk_at o20 hb rfl) ha hr h
theorem n21 : Tryz.prog.funcs[21]? = some Tryz.f21 := by kernel_rfl
theorem e21 : entB Tryz.prog 21 = true := by kernel_rfl
theorem o21 : bodyOk (anL [(12, [0, 1, 3, 7, 7, 23, 63, 127, 255, 7, 519, 2047, 4095])]) Tryz.f21 = true := by kernel_rfl
theorem w21 {ct : Ct} (ow : Nat → Bool) (ad : List Adj) {code : Code} (hb : Tryz.f21.body = some code) (hc : CtOk pg ct) {args : List V} {r : V} (ha : Nat.ble args.length 74 = true) (hr : r.noId = true) (h : exec ⟨pg, ct, ow, 74, anL [(12, [0, 1, 3, 7, 7, 23, 63, 127, 255, 7, 519, 2047, 4095])], true, none⟩ code ⟨argE args, hOf []⟩ (PostF pg.prog ad [.tmp 4, .tmp 5] r [])) : PCall pg 21 args r := pcall_inF ad hc fol 21 n21 hb rfl e21 rfl (bodyOk_at o21 hb rfl) ha hr h
theorem n22 : Tryz.prog.funcs[22]? = some Tryz.f22 := by kernel_rfl
theorem e22 : entB Tryz.prog 22 = true := by kernel_rfl
theorem o22 : bodyOk (anL [(6, [0, 0, 3, 7, 0, 0, 48, 112, 255])]) Tryz.f22 = true := by kernel_rfl
theorem w22 {ct : Ct} (ow : Nat → Bool) (ad : List Adj) {code : Code} (hb : Tryz.f22.body = some code) (hc : CtOk pg ct) {args : List V} {r : V} (ha : Nat.ble args.length 26 = true) (hr : r.noId = true) (h : exec ⟨pg, ct, ow, 26, anL [(6, [0, 0, 3, 7, 0, 0, 48, 112, 255])], true, none⟩ code ⟨argE args, hOf []⟩ (PostF pg.prog ad [.tmp 4] r [])) : PCall pg 22 args r := pcall_inF ad hc fol 22 n22 hb rfl e22 rfl (bodyOk_at o22 hb rfl) ha hr h
theorem n31 : Tryz.prog.funcs[31]? = some Tryz.f31 := by kernel_rfl
theorem e31 : entB Tryz.prog 31 = true := by kernel_rfl
theorem o31 : bodyOk (anL [(6, [0, 0, 3, 7, 0, 0, 48, 112, 255])]) Tryz.f31 = true := by kernel_rfl
theorem w31 {ct : Ct} (ow : Nat → Bool) (ad : List Adj) {code : Code} (hb : Tryz.f31.body = some code) (hc : CtOk pg ct) {args : List V} {r : V} (ha : Nat.ble args.length 26 = true) (hr : r.noId = true) (h : exec ⟨pg, ct, ow, 26, anL [(6, [0, 0, 3, 7, 0, 0, 48, 112, 255])], true, none⟩ code ⟨argE args, hOf []⟩ (PostF pg.prog ad [.tmp 4] r [])) : PCall pg 31 args r := pcall_inF ad hc fol 31 n31 hb rfl e31 rfl (bodyOk_at o31 hb rfl) ha hr h
theorem n32 : Tryz.prog.funcs[32]? = some Tryz.f32 := by kernel_rfl
theorem e32 : entB Tryz.prog 32 = true := by kernel_rfl
theorem o32 : bodyOk (anL []) Tryz.f32 = true := by kernel_rfl
theorem w32 {ct : Ct} (ow : Nat → Bool) (ad : List Adj) {code : Code} (hb : Tryz.f32.body = some code) (hc : CtOk pg ct) {args : List V} {r : V} (ha : Nat.ble args.length 15 = true) (hr : r.noId = true) (h : exec ⟨pg, ct, ow, 15, anL [], true, none⟩ code ⟨argE args, hOf []⟩ (PostF pg.prog ad [.tmp 4, .tmp 5] r [])) : PCall pg 32 args r := pcall_inF ad hc fol 32 n32 hb rfl e32 rfl (bodyOk_at o32 hb rfl) ha hr h
theorem n37 : Tryz.prog.funcs[37]? = some Tryz.f37 := by kernel_rfl
theorem e37 : entB Tryz.prog 37 = true := by kernel_rfl
theorem o37 : bodyOk (anL []) Tryz.f37 = true := by kernel_rfl
theorem n42 : Tryz.prog.funcs[42]? = some Tryz.f42 := by kernel_rfl
theorem e42 : entB Tryz.prog 42 = true := by kernel_rfl
theorem o42 : bodyOk (anL [(9, [0, 0, 2, 6, 14, 1, 63, 127])]) Tryz.f42 = true := by kernel_rfl
theorem w42 {ct : Ct} (ow : Nat → Bool) (ad : List Adj) {code : Code} (hb : Tryz.f42.body = some code) (hc : CtOk pg ct) {args : List V} {r : V} (ha : Nat.ble args.length 49 = true) (hr : r.noId = true) (h : exec ⟨pg, ct, ow, 49, anL [(9, [0, 0, 2, 6, 14, 1, 63, 127])], true, none⟩ code ⟨argE args, hOf []⟩ (PostF pg.prog ad [.cell 2 36, .tmp 3, .tmp 4] r [])) : PCall pg 42 args r := pcall_inF ad hc fol 42 n42 hb rfl e42 rfl (bodyOk_at o42 hb rfl) ha hr h
theorem n43 : Tryz.prog.funcs[43]? = some Tryz.f43 := by kernel_rfl
theorem e43 : entB Tryz.prog 43 = true := by kernel_rfl
theorem o43 : bodyOk (anL []) Tryz.f43 = true := by kernel_rfl
theorem w43 {ct : Ct} (ow : Nat → Bool) (ad : List Adj) {code : Code} (hb : Tryz.f43.body = some code) (hc : CtOk pg ct) {args : List V} {r : V} (ha : Nat.ble args.length 29 = true) (hr : r.noId = true) (h : exec ⟨pg, ct, ow, 29, anL [], true, none⟩ code ⟨argE args, hOf []⟩ (PostF pg.prog ad [.tmp 4] r [])) : PCall pg 43 args r := pcall_inF ad hc fol 43 n43 hb rfl e43 rfl (bodyOk_at o43 hb rfl) ha hr h
theorem n44 : Tryz.prog.funcs[44]? = some Tryz.f44 := by kernel_rfl
theorem e44 : entB Tryz.prog 44 = true := by kernel_rfl
theorem o44 : bodyOk (anL []) Tryz.f44 = true := by kernel_rfl
theorem w44 {ct : Ct} (ow : Nat → Bool) (ad : List Adj) {code : Code} (hb : Tryz.f44.body = some code) (hc : CtOk pg ct) {args : List V} {r : V} (ha : Nat.ble args.length 22 = true) (hr : r.noId = true) (h : exec ⟨pg, ct, ow, 22, anL [], true, none⟩ code ⟨argE args, hOf []⟩ (PostF pg.prog ad [.cell 2 36, .tmp 3] r [])) : PCall pg 44 args r := pcall_inF ad hc fol 44 n44 hb rfl e44 rfl (bodyOk_at o44 hb rfl) ha hr h
theorem n45 : Tryz.prog.funcs[45]? = some Tryz.f45 := by kernel_rfl
theorem e45 : entB Tryz.prog 45 = true := by kernel_rfl
theorem o45 : bodyOk (anL []) Tryz.f45 = true := by kernel_rfl
theorem w45 {ct : Ct} (ow : Nat → Bool) (ad : List Adj) {code : Code} (hb : Tryz.f45.body = some code) (hc : CtOk pg ct) {args : List V} {r : V} (ha : Nat.ble args.length 8 = true) (hr : r.noId = true) (h : exec ⟨pg, ct, ow, 8, anL [], true, none⟩ code ⟨argE args, hOf []⟩ (PostF pg.prog ad [.tmp 4] r [])) : PCall pg 45 args r := pcall_inF ad hc fol 45 n45 hb rfl e45 rfl (bodyOk_at o45 hb rfl) ha hr h
theorem n46 : Tryz.prog.funcs[46]? = some Tryz.f46 := by kernel_rfl
theorem e46 : entB Tryz.prog 46 = true := by kernel_rfl
theorem o46 : bodyOk (anL []) Tryz.f46 = true := by kernel_rfl
theorem w46 {ct : Ct} (ow : Nat → Bool) (ad : List Adj) {code : Code} (hb : Tryz.f46.body = some code) (hc : CtOk pg ct) {args : List V} {r : V} (ha : Nat.ble args.length 20 = true) (hr : r.noId = true) (h : exec ⟨pg, ct, ow, 20, anL [], true, none⟩ code ⟨argE args, hOf []⟩ (PostF pg.prog ad [.cell 2 36] r [])) : PCall pg 46 args r := pcall_inF ad hc fol 46 n46 hb rfl e46 rfl (bodyOk_at o46 hb rfl) ha hr h
theorem n47 : Tryz.prog.funcs[47]? = some Tryz.f47 := by kernel_rfl
theorem e47 : entB Tryz.prog 47 = true := by kernel_rfl
theorem o47 : bodyOk (anL []) Tryz.f47 = true := by kernel_rfl
theorem w47 {ct : Ct} (ow : Nat → Bool) (ad : List Adj) {code : Code} (hb : Tryz.f47.body = some code) (hc : CtOk pg ct) {args : List V} {r : V} (ha : Nat.ble args.length 8 = true) (hr : r.noId = true) (h : exec ⟨pg, ct, ow, 8, anL [], true, none⟩ code ⟨argE args, hOf []⟩ (PostF pg.prog ad [.tmp 4] r [])) : PCall pg 47 args r := pcall_inF ad hc fol 47 n47 hb rfl e47 rfl (bodyOk_at o47 hb rfl) ha hr h
theorem n48 : Tryz.prog.funcs[48]? = some Tryz.f48 := by kernel_rfl
theorem e48 : entB Tryz.prog 48 = true := by kernel_rfl
theorem o48 : bodyOk (anL []) Tryz.f48 = true := by kernel_rfl
theorem w48 {ct : Ct} (ow : Nat → Bool) (ad : List Adj) {code : Code} (hb : Tryz.f48.body = some code) (hc : CtOk pg ct) {args : List V} {r : V} (ha : Nat.ble args.length 64 = true) (hr : r.noId = true) (h : exec ⟨pg, ct, ow, 64, anL [], true, none⟩ code ⟨argE args, hOf []⟩ (PostF pg.prog ad [.tmp 2] r [])) : PCall pg 48 args r := pcall_inF ad hc fol 48 n48 hb rfl e48 rfl (bodyOk_at o48 hb rfl) ha hr h
theorem n49 : Tryz.prog.funcs[49]? = some Tryz.f49 := by kernel_rfl
theorem e49 : entB Tryz.prog 49 = true := by kernel_rfl
theorem o49 : bodyOk (anL []) Tryz.f49 = true := by kernel_rfl
theorem w49 {ct : Ct} (ow : Nat → Bool) (ad : List Adj) {code : Code} (hb : Tryz.f49.body = some code) (hc : CtOk pg ct) {args : List V} {r : V} (ha : Nat.ble args.length 22 = true) (hr : r.noId = true) (h : exec ⟨pg, ct, ow, 22, anL [], true, none⟩ code ⟨argE args, hOf []⟩ (PostF pg.prog ad [.cell 2 36, .tmp 3] r [])) : PCall pg 49 args r := pcall_inF ad hc fol 49 n49 hb rfl e49 rfl (bodyOk_at o49 hb rfl) ha hr h
theorem n50 : Tryz.prog.funcs[50]? = some Tryz.f50 := by kernel_rfl
theorem e50 : entB Tryz.prog 50 = true := by kernel_rfl
theorem o50 : bodyOk (anL []) Tryz.f50 = true := by kernel_rfl
theorem w50 {ct : Ct} (ow : Nat → Bool) (ad : List Adj) {code : Code} (hb : Tryz.f50.body = some code) (hc : CtOk pg ct) {args : List V} {r : V} (ha : Nat.ble args.length 21 = true) (hr : r.noId = true) (h : exec ⟨pg, ct, ow, 21, anL [], true, none⟩ code ⟨argE args, hOf []⟩ (PostF pg.prog ad [.cell 2 36, .tmp 3, .tmp 4] r [])) : PCall pg 50 args r := pcall_inF ad hc fol 50 n50 hb rfl e50 rfl (bodyOk_at o50 hb rfl) ha hr h
theorem n52 : Tryz.prog.funcs[52]? = some Tryz.f52 := by kernel_rfl
theorem e52 : entB Tryz.prog 52 = true := by kernel_rfl
theorem o52 : bodyOk (anL []) Tryz.f52 = true := by kernel_rfl
theorem w52 {ct : Ct} (ow : Nat → Bool) (ad : List Adj) {code : Code} (hb : Tryz.f52.body = some code) (hc : CtOk pg ct) {args : List V} {r : V} (ha : Nat.ble args.length 8 = true) (hr : r.noId = true) (h : exec ⟨pg, ct, ow, 8, anL [], true, none⟩ code ⟨argE args, hOf []⟩ (PostF pg.prog ad [.tmp 2] r [])) : PCall pg 52 args r := pcall_inF ad hc fol 52 n52 hb rfl e52 rfl (bodyOk_at o52 hb rfl) ha hr h
theorem n54 : Tryz.prog.funcs[54]? = some Tryz.f54 := by kernel_rfl
theorem e54 : entB Tryz.prog 54 = true := by kernel_rfl
theorem o54 : bodyOk (anL []) Tryz.f54 = true := by kernel_rfl
theorem w54 {ct : Ct} (ow : Nat → Bool) (ad : List Adj) {code : Code} (hb : Tryz.f54.body = some code) (hc : CtOk pg ct) {args : List V} {r : V} (ha : Nat.ble args.length 15 = true) (hr : r.noId = true) (h : exec ⟨pg, ct, ow, 15, anL [], true, none⟩ code ⟨argE args, hOf []⟩ (PostF pg.prog ad [.tmp 6] r [])) : PCall pg 54 args r := pcall_inF ad hc fol 54 n54 hb rfl e54 rfl (bodyOk_at o54 hb rfl) ha hr h
theorem n55 : Tryz.prog.funcs[55]? = some Tryz.f55 := by kernel_rfl
theorem e55 : entB Tryz.prog 55 = true := by kernel_rfl
theorem o55 : bodyOk (anL []) Tryz.f55 = true := by kernel_rfl
theorem fw55 {ct : Ct} (ow : Nat → Bool) (ad : List Adj) {code : Code} (hb : Tryz.f55.body = some code) (hc : CtOk pg ct) {args : List V} {hl hl' : HL} {r : V} (ha : Nat.ble args.length 9 = true) (hlo : ∀ p ∈ hl, 9000 ≤ p.1) (hin : hlIn (idsIn hl) hl') (hr : V.menIn (idsIn hl) r = true) (h : exec ⟨pg, ct, ow, 9, anL [], true, none⟩ code ⟨argE args, hOf hl⟩ (PostF pg.prog ad [] r hl')) : FCall pg 55 args hl r hl' := fcall_inF ad hc fol 55 n55 hb rfl e55 rfl (bodyOk_at o55 hb rfl) ha hlo hin hr h
theorem n56 : Tryz.prog.funcs[56]? = some Tryz.f56 := by kernel_rfl
theorem e56 : entB Tryz.prog 56 = true := by kernel_rfl
theorem o56 : bodyOk (anL []) Tryz.f56 = true := by kernel_rfl
theorem w56 {ct : Ct} (ow : Nat → Bool) (ad : List Adj) {code : Code} (hb : Tryz.f56.body = some code) (hc : CtOk pg ct) {args : List V} {r : V} (ha : Nat.ble args.length 10 = true) (hr : r.noId = true) (h : exec ⟨pg, ct, ow, 10, anL [], true, none⟩ code ⟨argE args, hOf []⟩ (PostF pg.prog ad [.tmp 4] r [])) : PCall pg 56 args r := pcall_inF ad hc fol 56 n56 hb rfl e56 rfl (bodyOk_at o56 hb rfl) ha hr h
theorem n57 : Tryz.prog.funcs[57]? = some Tryz.f57 := by kernel_rfl
theorem e57 : entB Tryz.prog 57 = true := by kernel_rfl
theorem o57 : bodyOk (anL []) Tryz.f57 = true := by kernel_rfl
theorem w57 {ct : Ct} (ow : Nat → Bool) (ad : List Adj) {code : Code} (hb : Tryz.f57.body = some code) (hc : CtOk pg ct) {args : List V} {r : V} (ha : Nat.ble args.length 20 = true) (hr : r.noId = true) (h : exec ⟨pg, ct, ow, 20, anL [], true, none⟩ code ⟨argE args, hOf []⟩ (PostF pg.prog ad [.tmp 4] r [])) : PCall pg 57 args r := pcall_inF ad hc fol 57 n57 hb rfl e57 rfl (bodyOk_at o57 hb rfl) ha hr h
theorem n58 : Tryz.prog.funcs[58]? = some Tryz.f58 := by kernel_rfl
theorem e58 : entB Tryz.prog 58 = true := by kernel_rfl
theorem o58 : bodyOk (anL [(11, [0, 0, 0, 6, 15, 0, 0, 96, 255]), (15, [0, 0, 0, 6, 15, 0, 0, 96, 255])]) Tryz.f58 = true := by kernel_rfl
theorem fw58 {ct : Ct} (ow : Nat → Bool) (ad : List Adj) {code : Code} (hb : Tryz.f58.body = some code) (hc : CtOk pg ct) {args : List V} {hl hl' : HL} {r : V} (ha : Nat.ble args.length 95 = true) (hlo : ∀ p ∈ hl, 9000 ≤ p.1) (hin : hlIn (idsIn hl) hl') (hr : V.menIn (idsIn hl) r = true) (h : exec ⟨pg, ct, ow, 95, anL [(11, [0, 0, 0, 6, 15, 0, 0, 96, 255]), (15, [0, 0, 0, 6, 15, 0, 0, 96, 255])], true, none⟩ code ⟨argE args, hOf hl⟩ (PostF pg.prog ad [.tmp 6] r hl')) : FCall pg 58 args hl r hl' := fcall_inF ad hc fol 58 n58 hb rfl e58 rfl (bodyOk_at o58 hb rfl) ha hlo hin hr h
theorem n65 : Tryz.prog.funcs[65]? = some Tryz.f65 := by kernel_rfl
theorem e65 : entB Tryz.prog 65 = true := by kernel_rfl
theorem o65 : bodyOk (anL []) Tryz.f65 = true := by kernel_rfl
theorem w65 {ct : Ct} (ow : Nat → Bool) (ad : List Adj) {code : Code} (hb : Tryz.f65.body = some code) (hc : CtOk pg ct) {args : List V} {r : V} (ha : Nat.ble args.length 8 = true) (hr : r.noId = true) (h : exec ⟨pg, ct, ow, 8, anL [], true, none⟩ code ⟨argE args, hOf []⟩ (PostF pg.prog ad [.tmp 4] r [])) : PCall pg 65 args r := pcall_inF ad hc fol 65 n65 hb rfl e65 rfl (bodyOk_at o65 hb rfl) ha hr h
theorem n70 : Tryz.prog.funcs[70]? = some Tryz.f70 := by kernel_rfl
theorem e70 : entB Tryz.prog 70 = true := by kernel_rfl
theorem o70 : bodyOk (anL []) Tryz.f70 = true := by kernel_rfl
theorem w70 {ct : Ct} (ow : Nat → Bool) (ad : List Adj) {code : Code} (hb : Tryz.f70.body = some code) (hc : CtOk pg ct) {args : List V} {r : V} (ha : Nat.ble args.length 57 = true) (hr : r.noId = true) (h : exec ⟨pg, ct, ow, 57, anL [], true, none⟩ code ⟨argE args, hOf []⟩ (PostF pg.prog ad [.tmp 2] r [])) : PCall pg 70 args r := pcall_inF ad hc fol 70 n70 hb rfl e70 rfl (bodyOk_at o70 hb rfl) ha hr h
theorem n71 : Tryz.prog.funcs[71]? = some Tryz.f71 := by kernel_rfl
theorem e71 : entB Tryz.prog 71 = true := by kernel_rfl
theorem o71 : bodyOk (anL []) Tryz.f71 = true := by kernel_rfl
theorem w71 {ct : Ct} (ow : Nat → Bool) (ad : List Adj) {code : Code} (hb : Tryz.f71.body = some code) (hc : CtOk pg ct) {args : List V} {r : V} (ha : Nat.ble args.length 17 = true) (hr : r.noId = true) (h : exec ⟨pg, ct, ow, 17, anL [], true, none⟩ code ⟨argE args, hOf []⟩ (PostF pg.prog ad [.tmp 4] r [])) : PCall pg 71 args r := pcall_inF ad hc fol 71 n71 hb rfl e71 rfl (bodyOk_at o71 hb rfl) ha hr h
theorem n81 : Tryz.prog.funcs[81]? = some Tryz.f81 := by kernel_rfl
theorem e81 : entB Tryz.prog 81 = true := by kernel_rfl
theorem o81 : bodyOk (anL [(5, [0, 0, 2, 7, 15, 31, 31, 95, 255, 511, 1023, 2047, 2047, 2047, 10239, 32767, 65535, 2047, 2047, 2047, 526335, 1968127, 4194303, 8388607])]) Tryz.f81 = true := by kernel_rfl
theorem w81 {ct : Ct} (ow : Nat → Bool) (ad : List Adj) {code : Code} (hb : Tryz.f81.body = some code) (hc : CtOk pg ct) {args : List V} {r : V} (ha : Nat.ble args.length 54 = true) (hr : r.noId = true) (h : exec ⟨pg, ct, ow, 54, anL [(5, [0, 0, 2, 7, 15, 31, 31, 95, 255, 511, 1023, 2047, 2047, 2047, 10239, 32767, 65535, 2047, 2047, 2047, 526335, 1968127, 4194303, 8388607])], true, none⟩ code ⟨argE args, hOf []⟩ (PostF pg.prog ad [.tmp 2, .tmp 3, .tmp 4] r [])) : PCall pg 81 args r := pcall_inF ad hc fol 81 n81 hb rfl e81 rfl (bodyOk_at o81 hb rfl) ha hr h
theorem n82 : Tryz.prog.funcs[82]? = some Tryz.f82 := by kernel_rfl
theorem e82 : entB Tryz.prog 82 = true := by kernel_rfl
theorem o82 : bodyOk (anL [(1, [0, 1, 3, 7, 0, 16, 48, 112, 255, 511, 1023]), (2, [0, 0, 2, 6, 14, 0, 32, 96, 224, 0, 512, 1536, 3584, 0, 15872, 32766, 65535, 131071, 262143, 524287]), (6, [0, 1, 3, 7, 0, 16, 48, 112, 255, 511]), (11, [0, 0, 2, 6, 14, 0, 32, 96, 224, 0, 1022, 2047, 4095, 8191, 16383]), (15, [0, 1, 3, 7, 0, 16, 48, 112, 240, 511, 1023, 2047, 4095, 8191, 16383, 2047, 34815, 100351, 231423, 524287, 1048575, 2097151, 4194303, 8388607])]) Tryz.f82 = true := by kernel_rfl
theorem fw82 {ct : Ct} (ow : Nat → Bool) (ad : List Adj) {code : Code} (hb : Tryz.f82.body = some code) (hc : CtOk pg ct) {args : List V} {hl hl' : HL} {r : V} (ha : Nat.ble args.length 136 = true) (hlo : ∀ p ∈ hl, 9000 ≤ p.1) (hin : hlIn (idsIn hl) hl') (hr : V.menIn (idsIn hl) r = true) (h : exec ⟨pg, ct, ow, 136, anL [(1, [0, 1, 3, 7, 0, 16, 48, 112, 255, 511, 1023]), (2, [0, 0, 2, 6, 14, 0, 32, 96, 224, 0, 512, 1536, 3584, 0, 15872, 32766, 65535, 131071, 262143, 524287]), (6, [0, 1, 3, 7, 0, 16, 48, 112, 255, 511]), (11, [0, 0, 2, 6, 14, 0, 32, 96, 224, 0, 1022, 2047, 4095, 8191, 16383]), (15, [0, 1, 3, 7, 0, 16, 48, 112, 240, 511, 1023, 2047, 4095, 8191, 16383, 2047, 34815, 100351, 231423, 524287, 1048575, 2097151, 4194303, 8388607])], true, none⟩ code ⟨argE args, hOf hl⟩ (PostF pg.prog ad [.tmp 2] r hl')) : FCall pg 82 args hl r hl' := fcall_inF ad hc fol 82 n82 hb rfl e82 rfl (bodyOk_at o82 hb rfl) ha hlo hin hr h
theorem n83 : Tryz.prog.funcs[83]? = some Tryz.f83 := by kernel_rfl
theorem e83 : entB Tryz.prog 83 = true := by kernel_rfl
theorem o83 : bodyOk (anL [(5, [0, 1, 3, 7, 0, 16, 48, 112, 255, 511]), (11, [0, 1, 3, 7, 0, 16, 48, 112, 255, 511])]) Tryz.f83 = true := by kernel_rfl
theorem fw83 {ct : Ct} (ow : Nat → Bool) (ad : List Adj) {code : Code} (hb : Tryz.f83.body = some code) (hc : CtOk pg ct) {args : List V} {hl hl' : HL} {r : V} (ha : Nat.ble args.length 79 = true) (hlo : ∀ p ∈ hl, 9000 ≤ p.1) (hin : hlIn (idsIn hl) hl') (hr : V.menIn (idsIn hl) r = true) (h : exec ⟨pg, ct, ow, 79, anL [(5, [0, 1, 3, 7, 0, 16, 48, 112, 255, 511]), (11, [0, 1, 3, 7, 0, 16, 48, 112, 255, 511])], true, none⟩ code ⟨argE args, hOf hl⟩ (PostF pg.prog ad [.tmp 2] r hl')) : FCall pg 83 args hl r hl' := fcall_inF ad hc fol 83 n83 hb rfl e83 rfl (bodyOk_at o83 hb rfl) ha hlo hin hr h
theorem n84 : Tryz.prog.funcs[84]? = some Tryz.f84 := by kernel_rfl
theorem e84 : entB Tryz.prog 84 = true := by kernel_rfl
theorem o84 : bodyOk (anL []) Tryz.f84 = true := by kernel_rfl
theorem w84 {ct : Ct} (ow : Nat → Bool) (ad : List Adj) {code : Code} (hb : Tryz.f84.body = some code) (hc : CtOk pg ct) {args : List V} {r : V} (ha : Nat.ble args.length 14 = true) (hr : r.noId = true) (h : exec ⟨pg, ct, ow, 14, anL [], true, none⟩ code ⟨argE args, hOf []⟩ (PostF pg.prog ad [.tmp 2] r [])) : PCall pg 84 args r := pcall_inF ad hc fol 84 n84 hb rfl e84 rfl (bodyOk_at o84 hb rfl) ha hr h
theorem n85 : Tryz.prog.funcs[85]? = some Tryz.f85 := by kernel_rfl
theorem e85 : entB Tryz.prog 85 = true := by kernel_rfl
theorem o85 : bodyOk (anL []) Tryz.f85 = true := by kernel_rfl
theorem w85 {ct : Ct} (ow : Nat → Bool) (ad : List Adj) {code : Code} (hb : Tryz.f85.body = some code) (hc : CtOk pg ct) {args : List V} {r : V} (ha : Nat.ble args.length 73 = true) (hr : r.noId = true) (h : exec ⟨pg, ct, ow, 73, anL [], true, none⟩ code ⟨argE args, hOf []⟩ (PostF pg.prog ad [.tmp 2] r [])) : PCall pg 85 args r := pcall_inF ad hc fol 85 n85 hb rfl e85 rfl (bodyOk_at o85 hb rfl) ha hr h
theorem n86 : Tryz.prog.funcs[86]? = some Tryz.f86 := by kernel_rfl
theorem e86 : entB Tryz.prog 86 = true := by kernel_rfl
theorem o86 : bodyOk (anL [(1, [0, 1, 3, 0, 8, 31, 0, 64, 255, 0, 512, 2047, 0, 4096, 16383, 0, 32768, 131071, 0, 524287])]) Tryz.f86 = true := by kernel_rfl
theorem w86 {ct : Ct} (ow : Nat → Bool) (ad : List Adj) {code : Code} (hb : Tryz.f86.body = some code) (hc : CtOk pg ct) {args : List V} {r : V} (ha : Nat.ble args.length 50 = true) (hr : r.noId = true) (h : exec ⟨pg, ct, ow, 50, anL [(1, [0, 1, 3, 0, 8, 31, 0, 64, 255, 0, 512, 2047, 0, 4096, 16383, 0, 32768, 131071, 0, 524287])], true, none⟩ code ⟨argE args, hOf []⟩ (PostF pg.prog ad [.cell 2 36] r [])) : PCall pg 86 args r := pcall_inF ad hc fol 86 n86 hb rfl e86 rfl (bodyOk_at o86 hb rfl) ha hr h
theorem n87 : Tryz.prog.funcs[87]? = some Tryz.f87 := by kernel_rfl
theorem e87 : entB Tryz.prog 87 = true := by kernel_rfl
theorem o87 : bodyOk (anL []) Tryz.f87 = true := by kernel_rfl
theorem w87 {ct : Ct} (ow : Nat → Bool) (ad : List Adj) {code : Code} (hb : Tryz.f87.body = some code) (hc : CtOk pg ct) {args : List V} {r : V} (ha : Nat.ble args.length 19 = true) (hr : r.noId = true) (h : exec ⟨pg, ct, ow, 19, anL [], true, none⟩ code ⟨argE args, hOf []⟩ (PostF pg.prog ad [.tmp 4] r [])) : PCall pg 87 args r := pcall_inF ad hc fol 87 n87 hb rfl e87 rfl (bodyOk_at o87 hb rfl) ha hr h
theorem n88 : Tryz.prog.funcs[88]? = some Tryz.f88 := by kernel_rfl
theorem e88 : entB Tryz.prog 88 = true := by kernel_rfl
theorem o88 : bodyOk (anL []) Tryz.f88 = true := by kernel_rfl
theorem w88 {ct : Ct} (ow : Nat → Bool) (ad : List Adj) {code : Code} (hb : Tryz.f88.body = some code) (hc : CtOk pg ct) {args : List V} {r : V} (ha : Nat.ble args.length 18 = true) (hr : r.noId = true) (h : exec ⟨pg, ct, ow, 18, anL [], true, none⟩ code ⟨argE args, hOf []⟩ (PostF pg.prog ad [.tmp 4] r [])) : PCall pg 88 args r := pcall_inF ad hc fol 88 n88 hb rfl e88 rfl (bodyOk_at o88 hb rfl) ha hr h
theorem n89 : Tryz.prog.funcs[89]? = some Tryz.f89 := by kernel_rfl
theorem e89 : entB Tryz.prog 89 = true := by kernel_rfl
theorem o89 : bodyOk (anL []) Tryz.f89 = true := by kernel_rfl
theorem w89 {ct : Ct} (ow : Nat → Bool) (ad : List Adj) {code : Code} (hb : Tryz.f89.body = some code) (hc : CtOk pg ct) {args : List V} {r : V} (ha : Nat.ble args.length 11 = true) (hr : r.noId = true) (h : exec ⟨pg, ct, ow, 11, anL [], true, none⟩ code ⟨argE args, hOf []⟩ (PostF pg.prog ad [.tmp 2] r [])) : PCall pg 89 args r := pcall_inF ad hc fol 89 n89 hb rfl e89 rfl (bodyOk_at o89 hb rfl) ha hr h
theorem n90 : Tryz.prog.funcs[90]? = some Tryz.f90 := by kernel_rfl
theorem e90 : entB Tryz.prog 90 = true := by kernel_rfl
theorem o90 : bodyOk (anL []) Tryz.f90 = true := by kernel_rfl
theorem w90 {ct : Ct} (ow : Nat → Bool) (ad : List Adj) {code : Code} (hb : Tryz.f90.body = some code) (hc : CtOk pg ct) {args : List V} {r : V} (ha : Nat.ble args.length 22 = true) (hr : r.noId = true) (h : exec ⟨pg, ct, ow, 22, anL [], true, none⟩ code ⟨argE args, hOf []⟩ (PostF pg.prog ad [.tmp 2] r [])) : PCall pg 90 args r := pcall_inF ad hc fol 90 n90 hb rfl e90 rfl (bodyOk_at o90 hb rfl) ha hr h
theorem n91 : Tryz.prog.funcs[91]? = some Tryz.f91 := by kernel_rfl
theorem e91 : entB Tryz.prog 91 = true := by kernel_rfl
theorem o91 : bodyOk (anL []) Tryz.f91 = true := by kernel_rfl
theorem w91 {ct : Ct} (ow : Nat → Bool) (ad : List Adj) {code : Code} (hb : Tryz.f91.body = some code) (hc : CtOk pg ct) {args : List V} {r : V} (ha : Nat.ble args.length 35 = true) (hr : r.noId = true) (h : exec ⟨pg, ct, ow, 35, anL [], true, none⟩ code ⟨argE args, hOf []⟩ (PostF pg.prog ad [.tmp 2] r [])) : PCall pg 91 args r := pcall_inF ad hc fol 91 n91 hb rfl e91 rfl (bodyOk_at o91 hb rfl) ha hr h
theorem n92 : Tryz.prog.funcs[92]? = some Tryz.f92 := by kernel_rfl
theorem e92 : entB Tryz.prog 92 = true := by kernel_rfl
theorem o92 : bodyOk (anL []) Tryz.f92 = true := by kernel_rfl
theorem w92 {ct : Ct} (ow : Nat → Bool) (ad : List Adj) {code : Code} (hb : Tryz.f92.body = some code) (hc : CtOk pg ct) {args : List V} {r : V} (ha : Nat.ble args.length 15 = true) (hr : r.noId = true) (h : exec ⟨pg, ct, ow, 15, anL [], true, none⟩ code ⟨argE args, hOf []⟩ (PostF pg.prog ad [.tmp 2] r [])) : PCall pg 92 args r := pcall_inF ad hc fol 92 n92 hb rfl e92 rfl (bodyOk_at o92 hb rfl) ha hr h
theorem n93 : Tryz.prog.funcs[93]? = some Tryz.f93 := by kernel_rfl
theorem e93 : entB Tryz.prog 93 = true := by kernel_rfl
theorem o93 : bodyOk (anL []) Tryz.f93 = true := by kernel_rfl
theorem w93 {ct : Ct} (ow : Nat → Bool) (ad : List Adj) {code : Code} (hb : Tryz.f93.body = some code) (hc : CtOk pg ct) {args : List V} {r : V} (ha : Nat.ble args.length 6 = true) (hr : r.noId = true) (h : exec ⟨pg, ct, ow, 6, anL [], true, none⟩ code ⟨argE args, hOf []⟩ (PostF pg.prog ad [.tmp 2] r [])) : PCall pg 93 args r := pcall_inF ad hc fol 93 n93 hb rfl e93 rfl (bodyOk_at o93 hb rfl) ha hr h
theorem n94 : Tryz.prog.funcs[94]? = some Tryz.f94 := by kernel_rfl
theorem e94 : entB Tryz.prog 94 = true := by kernel_rfl
theorem o94 : bodyOk (anL []) Tryz.f94 = true := by kernel_rfl
theorem w94 {ct : Ct} (ow : Nat → Bool) (ad : List Adj) {code : Code} (hb : Tryz.f94.body = some code) (hc : CtOk pg ct) {args : List V} {r : V} (ha : Nat.ble args.length 37 = true) (hr : r.noId = true) (h : exec ⟨pg, ct, ow, 37, anL [], true, none⟩ code ⟨argE args, hOf []⟩ (PostF pg.prog ad [.tmp 2] r [])) : PCall pg 94 args r := pcall_inF ad hc fol 94 n94 hb rfl e94 rfl (bodyOk_at o94 hb rfl) ha hr h
theorem n95 : Tryz.prog.funcs[95]? = some Tryz.f95 := by kernel_rfl
theorem e95 : entB Tryz.prog 95 = true := by kernel_rfl
theorem o95 : bodyOk (anL [(1, [0, 1, 3, 0, 8, 31, 0, 64, 255, 511, 0, 1024, 4095, 0, 8192, 32767, 0, 131071])]) Tryz.f95 = true := by kernel_rfl
theorem w95 {ct : Ct} (ow : Nat → Bool) (ad : List Adj) {code : Code} (hb : Tryz.f95.body = some code) (hc : CtOk pg ct) {args : List V} {r : V} (ha : Nat.ble args.length 58 = true) (hr : r.noId = true) (h : exec ⟨pg, ct, ow, 58, anL [(1, [0, 1, 3, 0, 8, 31, 0, 64, 255, 511, 0, 1024, 4095, 0, 8192, 32767, 0, 131071])], true, none⟩ code ⟨argE args, hOf []⟩ (PostF pg.prog ad [.cell 2 36] r [])) : PCall pg 95 args r := pcall_inF ad hc fol 95 n95 hb rfl e95 rfl (bodyOk_at o95 hb rfl) ha hr h
theorem n96 : Tryz.prog.funcs[96]? = some Tryz.f96 := by kernel_rfl
theorem e96 : entB Tryz.prog 96 = true := by kernel_rfl
theorem o96 : bodyOk (anL [(4, [0, 0, 2, 6, 14, 1, 63]), (16, [0, 0, 2, 6, 14, 1, 63]), (25, [0, 0, 2, 6, 14, 1, 63])]) Tryz.f96 = true := by kernel_rfl
theorem w96 {ct : Ct} (ow : Nat → Bool) (ad : List Adj) {code : Code} (hb : Tryz.f96.body = some code) (hc : CtOk pg ct) {args : List V} {r : V} (ha : Nat.ble args.length 153 = true) (hr : r.noId = true) (h : exec ⟨pg, ct, ow, 153, anL [(4, [0, 0, 2, 6, 14, 1, 63]), (16, [0, 0, 2, 6, 14, 1, 63]), (25, [0, 0, 2, 6, 14, 1, 63])], true, none⟩ code ⟨argE args, hOf []⟩ (PostF pg.prog ad [.cell 2 36, .tmp 3] r [])) : PCall pg 96 args r := pcall_inF ad hc fol 96 n96 hb rfl e96 rfl (bodyOk_at o96 hb rfl) ha hr h
theorem n99 : Tryz.prog.funcs[99]? = some Tryz.f99 := by kernel_rfl
theorem e99 : entB Tryz.prog 99 = true := by kernel_rfl
theorem o99 : bodyOk (anL []) Tryz.f99 = true := by kernel_rfl
theorem fw99 {ct : Ct} (ow : Nat → Bool) (ad : List Adj) {code : Code} (hb : Tryz.f99.body = some code) (hc : CtOk pg ct) {args : List V} {hl hl' : HL} {r : V} (ha : Nat.ble args.length 63 = true) (hlo : ∀ p ∈ hl, 9000 ≤ p.1) (hin : hlIn (idsIn hl) hl') (hr : V.menIn (idsIn hl) r = true) (h : exec ⟨pg, ct, ow, 63, anL [], true, none⟩ code ⟨argE args, hOf hl⟩ (PostF pg.prog ad [] r hl')) : FCall pg 99 args hl r hl' := fcall_inF ad hc fol 99 n99 hb rfl e99 rfl (bodyOk_at o99 hb rfl) ha hlo hin hr h
theorem n100 : Tryz.prog.funcs[100]? = some Tryz.f100 := by kernel_rfl
theorem e100 : entB Tryz.prog 100 = true := by kernel_rfl
theorem o100 : bodyOk (anL []) Tryz.f100 = true := by kernel_rfl
theorem w100 {ct : Ct} (ow : Nat → Bool) (ad : List Adj) {code : Code} (hb : Tryz.f100.body = some code) (hc : CtOk pg ct) {args : List V} {r : V} (ha : Nat.ble args.length 6 = true) (hr : r.noId = true) (h : exec ⟨pg, ct, ow, 6, anL [], true, none⟩ code ⟨argE args, hOf []⟩ (PostF pg.prog ad [.tmp 2] r [])) : PCall pg 100 args r := pcall_inF ad hc fol 100 n100 hb rfl e100 rfl (bodyOk_at o100 hb rfl) ha hr h
theorem n109 : Tryz.prog.funcs[109]? = some Tryz.f109 := by kernel_rfl
theorem e109 : entB Tryz.prog 109 = true := by kernel_rfl
theorem o109 : bodyOk (anL []) Tryz.f109 = true := by kernel_rfl
theorem w109 {ct : Ct} (ow : Nat → Bool) (ad : List Adj) {code : Code} (hb : Tryz.f109.body = some code) (hc : CtOk pg ct) {args : List V} {r : V} (ha : Nat.ble args.length 8 = true) (hr : r.noId = true) (h : exec ⟨pg, ct, ow, 8, anL [], true, none⟩ code ⟨argE args, hOf []⟩ (PostF pg.prog ad [.tmp 4] r [])) : PCall pg 109 args r := pcall_inF ad hc fol 109 n109 hb rfl e109 rfl (bodyOk_at o109 hb rfl) ha hr h
theorem n116 : Tryz.prog.funcs[116]? = some Tryz.f116 := by kernel_rfl
theorem e116 : entB Tryz.prog 116 = true := by kernel_rfl
theorem o116 : bodyOk (anL []) Tryz.f116 = true := by kernel_rfl
theorem w116 {ct : Ct} (ow : Nat → Bool) (ad : List Adj) {code : Code} (hb : Tryz.f116.body = some code) (hc : CtOk pg ct) {args : List V} {r : V} (ha : Nat.ble args.length 11 = true) (hr : r.noId = true) (h : exec ⟨pg, ct, ow, 11, anL [], true, none⟩ code ⟨argE args, hOf []⟩ (PostF pg.prog ad [.tmp 4, .tmp 5] r [])) : PCall pg 116 args r := pcall_inF ad hc fol 116 n116 hb rfl e116 rfl (bodyOk_at o116 hb rfl) ha hr h
theorem n117 : Tryz.prog.funcs[117]? = some Tryz.f117 := by kernel_rfl
theorem e117 : entB Tryz.prog 117 = true := by kernel_rfl
theorem o117 : bodyOk (anL [(15, [0, 0, 0, 0, 8, 28, 60, 124, 252, 252, 764, 2044, 252, 252, 12540, 32764, 65532, 131071, 262143])]) Tryz.f117 = true := by kernel_rfl
theorem w117 {ct : Ct} (ow : Nat → Bool) (ad : List Adj) {code : Code} (hb : Tryz.f117.body = some code) (hc : CtOk pg ct) {args : List V} {r : V} (ha : Nat.ble args.length 78 = true) (hr : r.noId = true) (h : exec ⟨pg, ct, ow, 78, anL [(15, [0, 0, 0, 0, 8, 28, 60, 124, 252, 252, 764, 2044, 252, 252, 12540, 32764, 65532, 131071, 262143])], true, none⟩ code ⟨argE args, hOf []⟩ (PostF pg.prog ad [.tmp 6] r [])) : PCall pg 117 args r := pcall_inF ad hc fol 117 n117 hb rfl e117 rfl (bodyOk_at o117 hb rfl) ha hr h
theorem n118 : Tryz.prog.funcs[118]? = some Tryz.f118 := by kernel_rfl
theorem e118 : entB Tryz.prog 118 = true := by kernel_rfl
theorem o118 : bodyOk (anL [(8, [0, 0, 0, 6, 15, 0, 0, 0, 128, 480, 992, 2047, 0, 0, 8192, 28672, 4095, 131071]), (4, [0, 0, 0, 4, 14, 31, 0, 0, 128, 448, 63, 2047])]) Tryz.f118 = true := by kernel_rfl
theorem w118 {ct : Ct} (ow : Nat → Bool) (ad : List Adj) {code : Code} (hb : Tryz.f118.body = some code) (hc : CtOk pg ct) {args : List V} {r : V} (ha : Nat.ble args.length 62 = true) (hr : r.noId = true) (h : exec ⟨pg, ct, ow, 62, anL [(8, [0, 0, 0, 6, 15, 0, 0, 0, 128, 480, 992, 2047, 0, 0, 8192, 28672, 4095, 131071]), (4, [0, 0, 0, 4, 14, 31, 0, 0, 128, 448, 63, 2047])], true, none⟩ code ⟨argE args, hOf []⟩ (PostF pg.prog ad [.tmp 2] r [])) : PCall pg 118 args r := pcall_inF ad hc fol 118 n118 hb rfl e118 rfl (bodyOk_at o118 hb rfl) ha hr h
theorem n123 : Tryz.prog.funcs[123]? = some Tryz.f123 := by kernel_rfl
theorem e123 : entB Tryz.prog 123 = true := by kernel_rfl
theorem o123 : bodyOk (anL []) Tryz.f123 = true := by kernel_rfl
theorem w123 {ct : Ct} (ow : Nat → Bool) (ad : List Adj) {code : Code} (hb : Tryz.f123.body = some code) (hc : CtOk pg ct) {args : List V} {r : V} (ha : Nat.ble args.length 30 = true) (hr : r.noId = true) (h : exec ⟨pg, ct, ow, 30, anL [], true, none⟩ code ⟨argE args, hOf []⟩ (PostF pg.prog ad [.tmp 2] r [])) : PCall pg 123 args r := pcall_inF ad hc fol 123 n123 hb rfl e123 rfl (bodyOk_at o123 hb rfl) ha hr h
theorem n124 : Tryz.prog.funcs[124]? = some Tryz.f124 := by kernel_rfl
theorem e124 : entB Tryz.prog 124 = true := by kernel_rfl
theorem o124 : bodyOk (anL []) Tryz.f124 = true := by kernel_rfl
theorem w124 {ct : Ct} (ow : Nat → Bool) (ad : List Adj) {code : Code} (hb : Tryz.f124.body = some code) (hc : CtOk pg ct) {args : List V} {r : V} (ha : Nat.ble args.length 35 = true) (hr : r.noId = true) (h : exec ⟨pg, ct, ow, 35, anL [], true, none⟩ code ⟨argE args, hOf []⟩ (PostF pg.prog ad [.tmp 2] r [])) : PCall pg 124 args r := pcall_inF ad hc fol 124 n124 hb rfl e124 rfl (bodyOk_at o124 hb rfl) ha hr h
theorem n125 : Tryz.prog.funcs[125]? = some Tryz.f125 := by kernel_rfl
theorem e125 : entB Tryz.prog 125 = true := by kernel_rfl
theorem o125 : bodyOk (anL []) Tryz.f125 = true := by kernel_rfl
theorem w125 {ct : Ct} (ow : Nat → Bool) (ad : List Adj) {code : Code} (hb : Tryz.f125.body = some code) (hc : CtOk pg ct) {args : List V} {r : V} (ha : Nat.ble args.length 19 = true) (hr : r.noId = true) (h : exec ⟨pg, ct, ow, 19, anL [], true, none⟩ code ⟨argE args, hOf []⟩ (PostF pg.prog ad [.tmp 2] r [])) : PCall pg 125 args r := pcall_inF ad hc fol 125 n125 hb rfl e125 rfl (bodyOk_at o125 hb rfl) ha hr h
theorem n126 : Tryz.prog.funcs[126]? = some Tryz.f126 := by kernel_rfl
theorem e126 : entB Tryz.prog 126 = true := by kernel_rfl
theorem o126 : bodyOk (anL []) Tryz.f126 = true := by kernel_rfl
theorem w126 {ct : Ct} (ow : Nat → Bool) (ad : List Adj) {code : Code} (hb : Tryz.f126.body = some code) (hc : CtOk pg ct) {args : List V} {r : V} (ha : Nat.ble args.length 9 = true) (hr : r.noId = true) (h : exec ⟨pg, ct, ow, 9, anL [], true, none⟩ code ⟨argE args, hOf []⟩ (PostF pg.prog ad [.tmp 2] r [])) : PCall pg 126 args r := pcall_inF ad hc fol 126 n126 hb rfl e126 rfl (bodyOk_at o126 hb rfl) ha hr h
theorem n127 : Tryz.prog.funcs[127]? = some Tryz.f127 := by kernel_rfl
theorem e127 : entB Tryz.prog 127 = true := by kernel_rfl
theorem o127 : bodyOk (anL []) Tryz.f127 = true := by kernel_rfl
theorem w127 {ct : Ct} (ow : Nat → Bool) (ad : List Adj) {code : Code} (hb : Tryz.f127.body = some code) (hc : CtOk pg ct) {args : List V} {r : V} (ha : Nat.ble args.length 35 = true) (hr : r.noId = true) (h : exec ⟨pg, ct, ow, 35, anL [], true, none⟩ code ⟨argE args, hOf []⟩ (PostF pg.prog ad [.tmp 2] r [])) : PCall pg 127 args r := pcall_inF ad hc fol 127 n127 hb rfl e127 rfl (bodyOk_at o127 hb rfl) ha hr h
theorem n128 : Tryz.prog.funcs[128]? = some Tryz.f128 := by kernel_rfl
theorem e128 : entB Tryz.prog 128 = true := by kernel_rfl
theorem o128 : bodyOk (anL [(1, [0, 1, 3, 7, 0, 16, 48, 112, 255, 0, 1023, 2047, 4095, 4095, 8191, 32767]), (2, [0, 1, 3, 7, 0, 16, 48, 112, 0, 256, 768, 1792, 0, 7936, 16383, 32767])]) Tryz.f128 = true := by kernel_rfl
theorem fw128 {ct : Ct} (ow : Nat → Bool) (ad : List Adj) {code : Code} (hb : Tryz.f128.body = some code) (hc : CtOk pg ct) {args : List V} {hl hl' : HL} {r : V} (ha : Nat.ble args.length 48 = true) (hlo : ∀ p ∈ hl, 9000 ≤ p.1) (hin : hlIn (idsIn hl) hl') (hr : V.menIn (idsIn hl) r = true) (h : exec ⟨pg, ct, ow, 48, anL [(1, [0, 1, 3, 7, 0, 16, 48, 112, 255, 0, 1023, 2047, 4095, 4095, 8191, 32767]), (2, [0, 1, 3, 7, 0, 16, 48, 112, 0, 256, 768, 1792, 0, 7936, 16383, 32767])], true, none⟩ code ⟨argE args, hOf hl⟩ (PostF pg.prog ad [.tmp 4, .tmp 5] r hl')) : FCall pg 128 args hl r hl' := fcall_inF ad hc fol 128 n128 hb rfl e128 rfl (bodyOk_at o128 hb rfl) ha hlo hin hr h
theorem n129 : Tryz.prog.funcs[129]? = some Tryz.f129 := by kernel_rfl
theorem e129 : entB Tryz.prog 129 = true := by kernel_rfl
theorem o129 : bodyOk (anL []) Tryz.f129 = true := by kernel_rfl
theorem w129 {ct : Ct} (ow : Nat → Bool) (ad : List Adj) {code : Code} (hb : Tryz.f129.body = some code) (hc : CtOk pg ct) {args : List V} {r : V} (ha : Nat.ble args.length 20 = true) (hr : r.noId = true) (h : exec ⟨pg, ct, ow, 20, anL [], true, none⟩ code ⟨argE args, hOf []⟩ (PostF pg.prog ad [.tmp 4] r [])) : PCall pg 129 args r := pcall_inF ad hc fol 129 n129 hb rfl e129 rfl (bodyOk_at o129 hb rfl) ha hr h
theorem n130 : Tryz.prog.funcs[130]? = some Tryz.f130 := by kernel_rfl
theorem e130 : entB Tryz.prog 130 = true := by kernel_rfl
theorem o130 : bodyOk (anL []) Tryz.f130 = true := by kernel_rfl
theorem w130 {ct : Ct} (ow : Nat → Bool) (ad : List Adj) {code : Code} (hb : Tryz.f130.body = some code) (hc : CtOk pg ct) {args : List V} {r : V} (ha : Nat.ble args.length 22 = true) (hr : r.noId = true) (h : exec ⟨pg, ct, ow, 22, anL [], true, none⟩ code ⟨argE args, hOf []⟩ (PostF pg.prog ad [.tmp 2] r [])) : PCall pg 130 args r := pcall_inF ad hc fol 130 n130 hb rfl e130 rfl (bodyOk_at o130 hb rfl) ha hr h
theorem n132 : Tryz.prog.funcs[132]? = some Tryz.f132 := by kernel_rfl
theorem e132 : entB Tryz.prog 132 = true := by kernel_rfl
theorem o132 : bodyOk (anL [(7, [0, 0, 2, 7, 15, 31, 0, 0, 128, 448, 991, 2047, 4095]), (10, [0, 0, 2, 6, 0, 16, 48, 126, 255, 511])]) Tryz.f132 = true := by kernel_rfl
theorem w132 {ct : Ct} (ow : Nat → Bool) (ad : List Adj) {code : Code} (hb : Tryz.f132.body = some code) (hc : CtOk pg ct) {args : List V} {r : V} (ha : Nat.ble args.length 73 = true) (hr : r.noId = true) (h : exec ⟨pg, ct, ow, 73, anL [(7, [0, 0, 2, 7, 15, 31, 0, 0, 128, 448, 991, 2047, 4095]), (10, [0, 0, 2, 6, 0, 16, 48, 126, 255, 511])], true, none⟩ code ⟨argE args, hOf []⟩ (PostF pg.prog ad [.tmp 2] r [])) : PCall pg 132 args r := pcall_inF ad hc fol 132 n132 hb rfl e132 rfl (bodyOk_at o132 hb rfl) ha hr h
theorem n133 : Tryz.prog.funcs[133]? = some Tryz.f133 := by kernel_rfl
theorem e133 : entB Tryz.prog 133 = true := by kernel_rfl
theorem o133 : bodyOk (anL []) Tryz.f133 = true := by kernel_rfl
theorem w133 {ct : Ct} (ow : Nat → Bool) (ad : List Adj) {code : Code} (hb : Tryz.f133.body = some code) (hc : CtOk pg ct) {args : List V} {r : V} (ha : Nat.ble args.length 47 = true) (hr : r.noId = true) (h : exec ⟨pg, ct, ow, 47, anL [], true, none⟩ code ⟨argE args, hOf []⟩ (PostF pg.prog ad [.tmp 2] r [])) : PCall pg 133 args r := pcall_inF ad hc fol 133 n133 hb rfl e133 rfl (bodyOk_at o133 hb rfl) ha hr h
theorem n134 : Tryz.prog.funcs[134]? = some Tryz.f134 := by kernel_rfl
theorem e134 : entB Tryz.prog 134 = true := by kernel_rfl
theorem o134 : bodyOk (anL []) Tryz.f134 = true := by kernel_rfl
theorem w134 {ct : Ct} (ow : Nat → Bool) (ad : List Adj) {code : Code} (hb : Tryz.f134.body = some code) (hc : CtOk pg ct) {args : List V} {r : V} (ha : Nat.ble args.length 33 = true) (hr : r.noId = true) (h : exec ⟨pg, ct, ow, 33, anL [], true, none⟩ code ⟨argE args, hOf []⟩ (PostF pg.prog ad [.tmp 2] r [])) : PCall pg 134 args r := pcall_inF ad hc fol 134 n134 hb rfl e134 rfl (bodyOk_at o134 hb rfl) ha hr h
theorem n136 : Tryz.prog.funcs[136]? = some Tryz.f136 := by kernel_rfl
theorem e136 : entB Tryz.prog 136 = true := by kernel_rfl
theorem o136 : bodyOk (anL []) Tryz.f136 = true := by kernel_rfl
theorem w136 {ct : Ct} (ow : Nat → Bool) (ad : List Adj) {code : Code} (hb : Tryz.f136.body = some code) (hc : CtOk pg ct) {args : List V} {r : V} (ha : Nat.ble args.length 48 = true) (hr : r.noId = true) (h : exec ⟨pg, ct, ow, 48, anL [], true, none⟩ code ⟨argE args, hOf []⟩ (PostF pg.prog ad [.tmp 2] r [])) : PCall pg 136 args r := pcall_inF ad hc fol 136 n136 hb rfl e136 rfl (bodyOk_at o136 hb rfl) ha hr h
theorem n137 : Tryz.prog.funcs[137]? = some Tryz.f137 := by kernel_rfl
theorem e137 : entB Tryz.prog 137 = true := by kernel_rfl
theorem o137 : bodyOk (anL []) Tryz.f137 = true := by kernel_rfl
theorem w137 {ct : Ct} (ow : Nat → Bool) (ad : List Adj) {code : Code} (hb : Tryz.f137.body = some code) (hc : CtOk pg ct) {args : List V} {r : V} (ha : Nat.ble args.length 9 = true) (hr : r.noId = true) (h : exec ⟨pg, ct, ow, 9, anL [], true, none⟩ code ⟨argE args, hOf []⟩ (PostF pg.prog ad [.tmp 2] r [])) : PCall pg 137 args r := pcall_inF ad hc fol 137 n137 hb rfl e137 rfl (bodyOk_at o137 hb rfl) ha hr h
theorem n138 : Tryz.prog.funcs[138]? = some Tryz.f138 := by kernel_rfl
theorem e138 : entB Tryz.prog 138 = true := by kernel_rfl
theorem o138 : bodyOk (anL []) Tryz.f138 = true := by kernel_rfl
theorem w138 {ct : Ct} (ow : Nat → Bool) (ad : List Adj) {code : Code} (hb : Tryz.f138.body = some code) (hc : CtOk pg ct) {args : List V} {r : V} (ha : Nat.ble args.length 53 = true) (hr : r.noId = true) (h : exec ⟨pg, ct, ow, 53, anL [], true, none⟩ code ⟨argE args, hOf []⟩ (PostF pg.prog ad [.tmp 4] r [])) : PCall pg 138 args r := pcall_inF ad hc fol 138 n138 hb rfl e138 rfl (bodyOk_at o138 hb rfl) ha hr h
theorem n139 : Tryz.prog.funcs[139]? = some Tryz.f139 := by kernel_rfl
theorem e139 : entB Tryz.prog 139 = true := by kernel_rfl
theorem o139 : bodyOk (anL []) Tryz.f139 = true := by kernel_rfl
theorem w139 {ct : Ct} (ow : Nat → Bool) (ad : List Adj) {code : Code} (hb : Tryz.f139.body = some code) (hc : CtOk pg ct) {args : List V} {r : V} (ha : Nat.ble args.length 72 = true) (hr : r.noId = true) (h : exec ⟨pg, ct, ow, 72, anL [], true, none⟩ code ⟨argE args, hOf []⟩ (PostF pg.prog ad [.tmp 2] r [])) : PCall pg 139 args r := pcall_inF ad hc fol 139 n139 hb rfl e139 rfl (bodyOk_at o139 hb rfl) ha hr h
theorem n140 : Tryz.prog.funcs[140]? = some Tryz.f140 := by kernel_rfl
theorem e140 : entB Tryz.prog 140 = true := by kernel_rfl
theorem o140 : bodyOk (anL [(7, [0, 0, 2, 7, 15, 31, 0, 0, 128, 448, 991, 2047, 4095, 8191]), (10, [0, 0, 2, 6, 0, 16, 48, 126, 255, 511])]) Tryz.f140 = true := by kernel_rfl
theorem w140 {ct : Ct} (ow : Nat → Bool) (ad : List Adj) {code : Code} (hb : Tryz.f140.body = some code) (hc : CtOk pg ct) {args : List V} {r : V} (ha : Nat.ble args.length 74 = true) (hr : r.noId = true) (h : exec ⟨pg, ct, ow, 74, anL [(7, [0, 0, 2, 7, 15, 31, 0, 0, 128, 448, 991, 2047, 4095, 8191]), (10, [0, 0, 2, 6, 0, 16, 48, 126, 255, 511])], true, none⟩ code ⟨argE args, hOf []⟩ (PostF pg.prog ad [.tmp 2] r [])) : PCall pg 140 args r := pcall_inF ad hc fol 140 n140 hb rfl e140 rfl (bodyOk_at o140 hb rfl) ha hr h
theorem n141 : Tryz.prog.funcs[141]? = some Tryz.f141 := by kernel_rfl
theorem e141 : entB Tryz.prog 141 = true := by kernel_rfl
theorem o141 : bodyOk (anL []) Tryz.f141 = true := by kernel_rfl
theorem fw141 {ct : Ct} (ow : Nat → Bool) (ad : List Adj) {code : Code} (hb : Tryz.f141.body = some code) (hc : CtOk pg ct) {args : List V} {hl hl' : HL} {r : V} (ha : Nat.ble args.length 60 = true) (hlo : ∀ p ∈ hl, 9000 ≤ p.1) (hin : hlIn (idsIn hl) hl') (hr : V.menIn (idsIn hl) r = true) (h : exec ⟨pg, ct, ow, 60, anL [], true, none⟩ code ⟨argE args, hOf hl⟩ (PostF pg.prog ad [.tmp 2] r hl')) : FCall pg 141 args hl r hl' := fcall_inF ad hc fol 141 n141 hb rfl e141 rfl (bodyOk_at o141 hb rfl) ha hlo hin hr h
theorem n142 : Tryz.prog.funcs[142]? = some Tryz.f142 := by kernel_rfl
theorem e142 : entB Tryz.prog 142 = true := by kernel_rfl
theorem o142 : bodyOk (anL [(2, [0, 1, 3, 7, 0, 16, 48, 112, 240, 511, 1023, 2047, 4095, 8191, 16383, 2047, 34815, 100351, 231423, 524287, 1048575, 2097151, 4194303, 8388607, 16777215, 33554431, 67108863, 134217727, 268435455, 33554431, 570425343, 1644167167, 3791650815, 8589934591, 17179869183, 34359738367, 68719476735, 137438953471, 274877906943, 549755813887, 68719476735, 1168231104511, 3367254360063, 7765300871167, 17592186044415, 35184372088831, 70368744177663, 140737488355327, 281474976710655, 562949953421311, 1125899906842623, 2251799813685247, 281474976710655, 4785074604081151, 13792273858822143, 31806672368304127, 72057594037927935, 144115188075855871, 288230376151711743, 576460752303423487, 1152921504606846975, 2305843009213693951]), (4, [0, 1, 3, 7, 0, 0, 32, 96, 224, 511, 1023])]) Tryz.f142 = true := by kernel_rfl
theorem fw142 {ct : Ct} (ow : Nat → Bool) (ad : List Adj) {code : Code} (hb : Tryz.f142.body = some code) (hc : CtOk pg ct) {args : List V} {hl hl' : HL} {r : V} (ha : Nat.ble args.length 89 = true) (hlo : ∀ p ∈ hl, 9000 ≤ p.1) (hin : hlIn (idsIn hl) hl') (hr : V.menIn (idsIn hl) r = true) (h : exec ⟨pg, ct, ow, 89, anL [(2, [0, 1, 3, 7, 0, 16, 48, 112, 240, 511, 1023, 2047, 4095, 8191, 16383, 2047, 34815, 100351, 231423, 524287, 1048575, 2097151, 4194303, 8388607, 16777215, 33554431, 67108863, 134217727, 268435455, 33554431, 570425343, 1644167167, 3791650815, 8589934591, 17179869183, 34359738367, 68719476735, 137438953471, 274877906943, 549755813887, 68719476735, 1168231104511, 3367254360063, 7765300871167, 17592186044415, 35184372088831, 70368744177663, 140737488355327, 281474976710655, 562949953421311, 1125899906842623, 2251799813685247, 281474976710655, 4785074604081151, 13792273858822143, 31806672368304127, 72057594037927935, 144115188075855871, 288230376151711743, 576460752303423487, 1152921504606846975, 2305843009213693951]), (4, [0, 1, 3, 7, 0, 0, 32, 96, 224, 511, 1023])], true, none⟩ code ⟨argE args, hOf hl⟩ (PostF pg.prog ad [.tmp 4] r hl')) : FCall pg 142 args hl r hl' := fcall_inF ad hc fol 142 n142 hb rfl e142 rfl (bodyOk_at o142 hb rfl) ha hlo hin hr h
theorem n143 : Tryz.prog.funcs[143]? = some Tryz.f143 := by kernel_rfl
theorem e143 : entB Tryz.prog 143 = true := by kernel_rfl
theorem o143 : bodyOk (anL []) Tryz.f143 = true := by kernel_rfl
theorem fw143 {ct : Ct} (ow : Nat → Bool) (ad : List Adj) {code : Code} (hb : Tryz.f143.body = some code) (hc : CtOk pg ct) {args : List V} {hl hl' : HL} {r : V} (ha : Nat.ble args.length 33 = true) (hlo : ∀ p ∈ hl, 9000 ≤ p.1) (hin : hlIn (idsIn hl) hl') (hr : V.menIn (idsIn hl) r = true) (h : exec ⟨pg, ct, ow, 33, anL [], true, none⟩ code ⟨argE args, hOf hl⟩ (PostF pg.prog ad [.tmp 4] r hl')) : FCall pg 143 args hl r hl' := fcall_inF ad hc fol 143 n143 hb rfl e143 rfl (bodyOk_at o143 hb rfl) ha hlo hin hr h
theorem n145 : Tryz.prog.funcs[145]? = some Tryz.f145 := by kernel_rfl
theorem e145 : entB Tryz.prog 145 = true := by kernel_rfl
theorem o145 : bodyOk (anL [(4, [0, 0, 3, 7, 15, 15, 15, 111, 239, 15, 15, 1039, 3599, 7695, 16383, 32767, 65535]), (6, [0, 0, 0, 0, 8, 0, 0, 64, 224, 480, 0, 0, 3072, 7168, 16355, 32739, 65535, 131071])]) Tryz.f145 = true := by kernel_rfl
theorem fw145 {ct : Ct} (ow : Nat → Bool) (ad : List Adj) {code : Code} (hb : Tryz.f145.body = some code) (hc : CtOk pg ct) {args : List V} {hl hl' : HL} {r : V} (ha : Nat.ble args.length 53 = true) (hlo : ∀ p ∈ hl, 9000 ≤ p.1) (hin : hlIn (idsIn hl) hl') (hr : V.menIn (idsIn hl) r = true) (h : exec ⟨pg, ct, ow, 53, anL [(4, [0, 0, 3, 7, 15, 15, 15, 111, 239, 15, 15, 1039, 3599, 7695, 16383, 32767, 65535]), (6, [0, 0, 0, 0, 8, 0, 0, 64, 224, 480, 0, 0, 3072, 7168, 16355, 32739, 65535, 131071])], true, none⟩ code ⟨argE args, hOf hl⟩ (PostF pg.prog ad [] r hl')) : FCall pg 145 args hl r hl' := fcall_inF ad hc fol 145 n145 hb rfl e145 rfl (bodyOk_at o145 hb rfl) ha hlo hin hr h
theorem n146 : Tryz.prog.funcs[146]? = some Tryz.f146 := by kernel_rfl
theorem e146 : entB Tryz.prog 146 = true := by kernel_rfl
theorem o146 : bodyOk (anL [(5, [0, 0, 0, 6, 14, 0, 0, 96, 224, 511, 1023]), (11, [0, 0, 0, 0, 8, 0, 0, 64, 224, 480, 0, 0, 3072, 7168, 16355, 32739, 65535, 131071]), (17, [0, 0, 0, 6, 14, 0, 0, 96, 224, 511, 1023, 2047]), (23, [0, 0, 0, 0, 8, 0, 0, 64, 224, 480, 0, 0, 3072, 7168, 16355, 32739, 65535, 131071]), (35, [0, 0, 0, 0, 12, 30, 62, 0, 0, 384, 896, 2047, 4095, 8191])]) Tryz.f146 = true := by kernel_rfl
theorem fw146 {ct : Ct} (ow : Nat → Bool) (ad : List Adj) {code : Code} (hb : Tryz.f146.body = some code) (hc : CtOk pg ct) {args : List V} {hl hl' : HL} {r : V} (ha : Nat.ble args.length 220 = true) (hlo : ∀ p ∈ hl, 9000 ≤ p.1) (hin : hlIn (idsIn hl) hl') (hr : V.menIn (idsIn hl) r = true) (h : exec ⟨pg, ct, ow, 220, anL [(5, [0, 0, 0, 6, 14, 0, 0, 96, 224, 511, 1023]), (11, [0, 0, 0, 0, 8, 0, 0, 64, 224, 480, 0, 0, 3072, 7168, 16355, 32739, 65535, 131071]), (17, [0, 0, 0, 6, 14, 0, 0, 96, 224, 511, 1023, 2047]), (23, [0, 0, 0, 0, 8, 0, 0, 64, 224, 480, 0, 0, 3072, 7168, 16355, 32739, 65535, 131071]), (35, [0, 0, 0, 0, 12, 30, 62, 0, 0, 384, 896, 2047, 4095, 8191])], true, none⟩ code ⟨argE args, hOf hl⟩ (PostF pg.prog ad [] r hl')) : FCall pg 146 args hl r hl' := fcall_inF ad hc fol 146 n146 hb rfl e146 rfl (bodyOk_at o146 hb rfl) ha hlo hin hr h
theorem n158 : Tryz.prog.funcs[158]? = some Tryz.f158 := by kernel_rfl
theorem e158 : entB Tryz.prog 158 = true := by kernel_rfl
theorem o158 : bodyOk (anL []) Tryz.f158 = true := by kernel_rfl
theorem w158 {ct : Ct} (ow : Nat → Bool) (ad : List Adj) {code : Code} (hb : Tryz.f158.body = some code) (hc : CtOk pg ct) {args : List V} {r : V} (ha : Nat.ble args.length 11 = true) (hr : r.noId = true) (h : exec ⟨pg, ct, ow, 11, anL [], true, none⟩ code ⟨argE args, hOf []⟩ (PostF pg.prog ad [.tmp 4, .tmp 5] r [])) : PCall pg 158 args r := pcall_inF ad hc fol 158 n158 hb rfl e158 rfl (bodyOk_at o158 hb rfl) ha hr h
theorem n159 : Tryz.prog.funcs[159]? = some Tryz.f159 := by kernel_rfl
theorem e159 : entB Tryz.prog 159 = true := by kernel_rfl
theorem o159 : bodyOk (anL []) Tryz.f159 = true := by kernel_rfl
theorem w159 {ct : Ct} (ow : Nat → Bool) (ad : List Adj) {code : Code} (hb : Tryz.f159.body = some code) (hc : CtOk pg ct) {args : List V} {r : V} (ha : Nat.ble args.length 18 = true) (hr : r.noId = true) (h : exec ⟨pg, ct, ow, 18, anL [], true, none⟩ code ⟨argE args, hOf []⟩ (PostF pg.prog ad [.tmp 4, .tmp 5] r [])) : PCall pg 159 args r := pcall_inF ad hc fol 159 n159 hb rfl e159 rfl (bodyOk_at o159 hb rfl) ha hr h
theorem n160 : Tryz.prog.funcs[160]? = some Tryz.f160 := by kernel_rfl
theorem e160 : entB Tryz.prog 160 = true := by kernel_rfl
theorem o160 : bodyOk (anL []) Tryz.f160 = true := by kernel_rfl
theorem w160 {ct : Ct} (ow : Nat → Bool) (ad : List Adj) {code : Code} (hb : Tryz.f160.body = some code) (hc : CtOk pg ct) {args : List V} {r : V} (ha : Nat.ble args.length 9 = true) (hr : r.noId = true) (h : exec ⟨pg, ct, ow, 9, anL [], true, none⟩ code ⟨argE args, hOf []⟩ (PostF pg.prog ad [.tmp 4] r [])) : PCall pg 160 args r := pcall_inF ad hc fol 160 n160 hb rfl e160 rfl (bodyOk_at o160 hb rfl) ha hr h
theorem n161 : Tryz.prog.funcs[161]? = some Tryz.f161 := by kernel_rfl
theorem e161 : entB Tryz.prog 161 = true := by kernel_rfl
theorem o161 : bodyOk (anL []) Tryz.f161 = true := by kernel_rfl
theorem w161 {ct : Ct} (ow : Nat → Bool) (ad : List Adj) {code : Code} (hb : Tryz.f161.body = some code) (hc : CtOk pg ct) {args : List V} {r : V} (ha : Nat.ble args.length 21 = true) (hr : r.noId = true) (h : exec ⟨pg, ct, ow, 21, anL [], true, none⟩ code ⟨argE args, hOf []⟩ (PostF pg.prog ad [.tmp 2] r [])) : PCall pg 161 args r := pcall_inF ad hc fol 161 n161 hb rfl e161 rfl (bodyOk_at o161 hb rfl) ha hr h
theorem n167 : Tryz.prog.funcs[167]? = some Tryz.f167 := by kernel_rfl
theorem e167 : entB Tryz.prog 167 = true := by kernel_rfl
theorem o167 : bodyOk (anL []) Tryz.f167 = true := by kernel_rfl
theorem w167 {ct : Ct} (ow : Nat → Bool) (ad : List Adj) {code : Code} (hb : Tryz.f167.body = some code) (hc : CtOk pg ct) {args : List V} {r : V} (ha : Nat.ble args.length 17 = true) (hr : r.noId = true) (h : exec ⟨pg, ct, ow, 17, anL [], true, none⟩ code ⟨argE args, hOf []⟩ (PostF pg.prog ad [.tmp 2] r [])) : PCall pg 167 args r := pcall_inF ad hc fol 167 n167 hb rfl e167 rfl (bodyOk_at o167 hb rfl) ha hr h
theorem n168 : Tryz.prog.funcs[168]? = some Tryz.f168 := by kernel_rfl
theorem e168 : entB Tryz.prog 168 = true := by kernel_rfl
theorem o168 : bodyOk (anL []) Tryz.f168 = true := by kernel_rfl
theorem w168 {ct : Ct} (ow : Nat → Bool) (ad : List Adj) {code : Code} (hb : Tryz.f168.body = some code) (hc : CtOk pg ct) {args : List V} {r : V} (ha : Nat.ble args.length 49 = true) (hr : r.noId = true) (h : exec ⟨pg, ct, ow, 49, anL [], true, none⟩ code ⟨argE args, hOf []⟩ (PostF pg.prog ad [.tmp 2] r [])) : PCall pg 168 args r := pcall_inF ad hc fol 168 n168 hb rfl e168 rfl (bodyOk_at o168 hb rfl) ha hr h
theorem n169 : Tryz.prog.funcs[169]? = some Tryz.f169 := by kernel_rfl
theorem e169 : entB Tryz.prog 169 = true := by kernel_rfl
theorem o169 : bodyOk (anL []) Tryz.f169 = true := by kernel_rfl
theorem w169 {ct : Ct} (ow : Nat → Bool) (ad : List Adj) {code : Code} (hb : Tryz.f169.body = some code) (hc : CtOk pg ct) {args : List V} {r : V} (ha : Nat.ble args.length 65 = true) (hr : r.noId = true) (h : exec ⟨pg, ct, ow, 65, anL [], true, none⟩ code ⟨argE args, hOf []⟩ (PostF pg.prog ad [.tmp 4, .tmp 5] r [])) : PCall pg 169 args r := pcall_inF ad hc fol 169 n169 hb rfl e169 rfl (bodyOk_at o169 hb rfl) ha hr h
theorem n170 : Tryz.prog.funcs[170]? = some Tryz.f170 := by kernel_rfl
theorem e170 : entB Tryz.prog 170 = true := by kernel_rfl
theorem o170 : bodyOk (anL []) Tryz.f170 = true := by kernel_rfl
theorem w170 {ct : Ct} (ow : Nat → Bool) (ad : List Adj) {code : Code} (hb : Tryz.f170.body = some code) (hc : CtOk pg ct) {args : List V} {r : V} (ha : Nat.ble args.length 21 = true) (hr : r.noId = true) (h : exec ⟨pg, ct, ow, 21, anL [], true, none⟩ code ⟨argE args, hOf []⟩ (PostF pg.prog ad [.tmp 2] r [])) : PCall pg 170 args r := pcall_inF ad hc fol 170 n170 hb rfl e170 rfl (bodyOk_at o170 hb rfl) ha hr h
theorem n171 : Tryz.prog.funcs[171]? = some Tryz.f171 := by kernel_rfl
theorem e171 : entB Tryz.prog 171 = true := by kernel_rfl
theorem o171 : bodyOk (anL []) Tryz.f171 = true := by kernel_rfl
theorem w171 {ct : Ct} (ow : Nat → Bool) (ad : List Adj) {code : Code} (hb : Tryz.f171.body = some code) (hc : CtOk pg ct) {args : List V} {r : V} (ha : Nat.ble args.length 17 = true) (hr : r.noId = true) (h : exec ⟨pg, ct, ow, 17, anL [], true, none⟩ code ⟨argE args, hOf []⟩ (PostF pg.prog ad [.tmp 2] r [])) : PCall pg 171 args r := pcall_inF ad hc fol 171 n171 hb rfl e171 rfl (bodyOk_at o171 hb rfl) ha hr h
theorem n174 : Tryz.prog.funcs[174]? = some Tryz.f174 := by kernel_rfl
theorem e174 : entB Tryz.prog 174 = true := by kernel_rfl
theorem o174 : bodyOk (anL []) Tryz.f174 = true := by kernel_rfl
theorem w174 {ct : Ct} (ow : Nat → Bool) (ad : List Adj) {code : Code} (hb : Tryz.f174.body = some code) (hc : CtOk pg ct) {args : List V} {r : V} (ha : Nat.ble args.length 17 = true) (hr : r.noId = true) (h : exec ⟨pg, ct, ow, 17, anL [], true, none⟩ code ⟨argE args, hOf []⟩ (PostF pg.prog ad [.tmp 2] r [])) : PCall pg 174 args r := pcall_inF ad hc fol 174 n174 hb rfl e174 rfl (bodyOk_at o174 hb rfl) ha hr h
theorem n175 : Tryz.prog.funcs[175]? = some Tryz.f175 := by kernel_rfl
theorem e175 : entB Tryz.prog 175 = true := by kernel_rfl
theorem o175 : bodyOk (anL []) Tryz.f175 = true := by kernel_rfl
theorem w175 {ct : Ct} (ow : Nat → Bool) (ad : List Adj) {code : Code} (hb : Tryz.f175.body = some code) (hc : CtOk pg ct) {args : List V} {r : V} (ha : Nat.ble args.length 18 = true) (hr : r.noId = true) (h : exec ⟨pg, ct, ow, 18, anL [], true, none⟩ code ⟨argE args, hOf []⟩ (PostF pg.prog ad [.tmp 2] r [])) : PCall pg 175 args r := pcall_inF ad hc fol 175 n175 hb rfl e175 rfl (bodyOk_at o175 hb rfl) ha hr h
theorem n176 : Tryz.prog.funcs[176]? = some Tryz.f176 := by kernel_rfl
theorem e176 : entB Tryz.prog 176 = true := by kernel_rfl
theorem o176 : bodyOk (anL []) Tryz.f176 = true := by kernel_rfl
theorem w176 {ct : Ct} (ow : Nat → Bool) (ad : List Adj) {code : Code} (hb : Tryz.f176.body = some code) (hc : CtOk pg ct) {args : List V} {r : V} (ha : Nat.ble args.length 21 = true) (hr : r.noId = true) (h : exec ⟨pg, ct, ow, 21, anL [], true, none⟩ code ⟨argE args, hOf []⟩ (PostF pg.prog ad [.tmp 2] r [])) : PCall pg 176 args r := pcall_inF ad hc fol 176 n176 hb rfl e176 rfl (bodyOk_at o176 hb rfl) ha hr h
theorem n177 : Tryz.prog.funcs[177]? = some Tryz.f177 := by kernel_rfl
theorem e177 : entB Tryz.prog 177 = true := by kernel_rfl
theorem o177 : bodyOk (anL []) Tryz.f177 = true := by kernel_rfl
theorem w177 {ct : Ct} (ow : Nat → Bool) (ad : List Adj) {code : Code} (hb : Tryz.f177.body = some code) (hc : CtOk pg ct) {args : List V} {r : V} (ha : Nat.ble args.length 9 = true) (hr : r.noId = true) (h : exec ⟨pg, ct, ow, 9, anL [], true, none⟩ code ⟨argE args, hOf []⟩ (PostF pg.prog ad [.tmp 2] r [])) : PCall pg 177 args r := pcall_inF ad hc fol 177 n177 hb rfl e177 rfl (bodyOk_at o177 hb rfl) ha hr h
theorem n178 : Tryz.prog.funcs[178]? = some Tryz.f178 := by kernel_rfl
theorem e178 : entB Tryz.prog 178 = true := by kernel_rfl
theorem o178 : bodyOk (anL [(4, [0, 0, 3, 0, 8, 31, 63, 127, 127, 127, 895, 127, 127, 6271, 14463, 32767, 65535, 127, 127, 127, 524415, 1966207, 4194303, 8388607])]) Tryz.f178 = true := by kernel_rfl
theorem w178 {ct : Ct} (ow : Nat → Bool) (ad : List Adj) {code : Code} (hb : Tryz.f178.body = some code) (hc : CtOk pg ct) {args : List V} {r : V} (ha : Nat.ble args.length 41 = true) (hr : r.noId = true) (h : exec ⟨pg, ct, ow, 41, anL [(4, [0, 0, 3, 0, 8, 31, 63, 127, 127, 127, 895, 127, 127, 6271, 14463, 32767, 65535, 127, 127, 127, 524415, 1966207, 4194303, 8388607])], true, none⟩ code ⟨argE args, hOf []⟩ (PostF pg.prog ad [.tmp 6] r [])) : PCall pg 178 args r := pcall_inF ad hc fol 178 n178 hb rfl e178 rfl (bodyOk_at o178 hb rfl) ha hr h
theorem n179 : Tryz.prog.funcs[179]? = some Tryz.f179 := by kernel_rfl
theorem e179 : entB Tryz.prog 179 = true := by kernel_rfl
theorem o179 : bodyOk (anL []) Tryz.f179 = true := by kernel_rfl
theorem fw179 {ct : Ct} (ow : Nat → Bool) (ad : List Adj) {code : Code} (hb : Tryz.f179.body = some code) (hc : CtOk pg ct) {args : List V} {hl hl' : HL} {r : V} (ha : Nat.ble args.length 13 = true) (hlo : ∀ p ∈ hl, 9000 ≤ p.1) (hin : hlIn (idsIn hl) hl') (hr : V.menIn (idsIn hl) r = true) (h : exec ⟨pg, ct, ow, 13, anL [], true, none⟩ code ⟨argE args, hOf hl⟩ (PostF pg.prog ad [] r hl')) : FCall pg 179 args hl r hl' := fcall_inF ad hc fol 179 n179 hb rfl e179 rfl (bodyOk_at o179 hb rfl) ha hlo hin hr h
theorem n180 : Tryz.prog.funcs[180]? = some Tryz.f180 := by kernel_rfl
theorem e180 : entB Tryz.prog 180 = true := by kernel_rfl
theorem o180 : bodyOk (anL [(2, [0, 1, 3, 7, 0, 16, 48, 112, 240, 511, 1023, 2047, 2047, 6143, 14335, 30719, 2047, 67583, 198655, 460799, 1046527, 2097151, 4194303, 8388607]), (4, [0, 1, 3, 7, 0, 0, 32, 96, 224, 511, 1023])]) Tryz.f180 = true := by kernel_rfl
theorem fw180 {ct : Ct} (ow : Nat → Bool) (ad : List Adj) {code : Code} (hb : Tryz.f180.body = some code) (hc : CtOk pg ct) {args : List V} {hl hl' : HL} {r : V} (ha : Nat.ble args.length 51 = true) (hlo : ∀ p ∈ hl, 9000 ≤ p.1) (hin : hlIn (idsIn hl) hl') (hr : V.menIn (idsIn hl) r = true) (h : exec ⟨pg, ct, ow, 51, anL [(2, [0, 1, 3, 7, 0, 16, 48, 112, 240, 511, 1023, 2047, 2047, 6143, 14335, 30719, 2047, 67583, 198655, 460799, 1046527, 2097151, 4194303, 8388607]), (4, [0, 1, 3, 7, 0, 0, 32, 96, 224, 511, 1023])], true, none⟩ code ⟨argE args, hOf hl⟩ (PostF pg.prog ad [.tmp 4] r hl')) : FCall pg 180 args hl r hl' := fcall_inF ad hc fol 180 n180 hb rfl e180 rfl (bodyOk_at o180 hb rfl) ha hlo hin hr h
theorem n185 : Tryz.prog.funcs[185]? = some Tryz.f185 := by kernel_rfl
theorem e185 : entB Tryz.prog 185 = true := by kernel_rfl
theorem o185 : bodyOk (anL []) Tryz.f185 = true := by kernel_rfl
theorem fw185 {ct : Ct} (ow : Nat → Bool) (ad : List Adj) {code : Code} (hb : Tryz.f185.body = some code) (hc : CtOk pg ct) {args : List V} {hl hl' : HL} {r : V} (ha : Nat.ble args.length 58 = true) (hlo : ∀ p ∈ hl, 9000 ≤ p.1) (hin : hlIn (idsIn hl) hl') (hr : V.menIn (idsIn hl) r = true) (h : exec ⟨pg, ct, ow, 58, anL [], true, none⟩ code ⟨argE args, hOf hl⟩ (PostF pg.prog ad [] r hl')) : FCall pg 185 args hl r hl' := fcall_inF ad hc fol 185 n185 hb rfl e185 rfl (bodyOk_at o185 hb rfl) ha hlo hin hr h
theorem n195 : Tryz.prog.funcs[195]? = some Tryz.f195 := by kernel_rfl
theorem e195 : entB Tryz.prog 195 = true := by kernel_rfl
theorem o195 : bodyOk (anL []) Tryz.f195 = true := by kernel_rfl
theorem w195 {ct : Ct} (ow : Nat → Bool) (ad : List Adj) {code : Code} (hb : Tryz.f195.body = some code) (hc : CtOk pg ct) {args : List V} {r : V} (ha : Nat.ble args.length 15 = true) (hr : r.noId = true) (h : exec ⟨pg, ct, ow, 15, anL [], true, none⟩ code ⟨argE args, hOf []⟩ (PostF pg.prog ad [.tmp 4, .tmp 5] r [])) : PCall pg 195 args r := pcall_inF ad hc fol 195 n195 hb rfl e195 rfl (bodyOk_at o195 hb rfl) ha hr h
theorem n196 : Tryz.prog.funcs[196]? = some Tryz.f196 := by kernel_rfl
theorem e196 : entB Tryz.prog 196 = true := by kernel_rfl
theorem o196 : bodyOk (anL []) Tryz.f196 = true := by kernel_rfl
theorem w196 {ct : Ct} (ow : Nat → Bool) (ad : List Adj) {code : Code} (hb : Tryz.f196.body = some code) (hc : CtOk pg ct) {args : List V} {r : V} (ha : Nat.ble args.length 21 = true) (hr : r.noId = true) (h : exec ⟨pg, ct, ow, 21, anL [], true, none⟩ code ⟨argE args, hOf []⟩ (PostF pg.prog ad [.tmp 4] r [])) : PCall pg 196 args r := pcall_inF ad hc fol 196 n196 hb rfl e196 rfl (bodyOk_at o196 hb rfl) ha hr h
theorem n197 : Tryz.prog.funcs[197]? = some Tryz.f197 := by kernel_rfl
theorem e197 : entB Tryz.prog 197 = true := by kernel_rfl
theorem o197 : bodyOk (anL []) Tryz.f197 = true := by kernel_rfl
theorem w197 {ct : Ct} (ow : Nat → Bool) (ad : List Adj) {code : Code} (hb : Tryz.f197.body = some code) (hc : CtOk pg ct) {args : List V} {r : V} (ha : Nat.ble args.length 19 = true) (hr : r.noId = true) (h : exec ⟨pg, ct, ow, 19, anL [], true, none⟩ code ⟨argE args, hOf []⟩ (PostF pg.prog ad [.tmp 4] r [])) : PCall pg 197 args r := pcall_inF ad hc fol 197 n197 hb rfl e197 rfl (bodyOk_at o197 hb rfl) ha hr h
theorem n211 : Tryz.prog.funcs[211]? = some Tryz.f211 := by kernel_rfl
theorem e211 : entB Tryz.prog 211 = true := by kernel_rfl
theorem o211 : bodyOk (anL [(3, [0, 0, 0, 6, 0, 0, 0, 96, 0, 0, 0, 1536, 3840, 7936, 0, 0, 0, 98304, 245760, 507904, 1048335, 2096911, 4194303, 8388607])]) Tryz.f211 = true := by kernel_rfl
theorem fw211 {ct : Ct} (ow : Nat → Bool) (ad : List Adj) {code : Code} (hb : Tryz.f211.body = some code) (hc : CtOk pg ct) {args : List V} {hl hl' : HL} {r : V} (ha : Nat.ble args.length 38 = true) (hlo : ∀ p ∈ hl, 9000 ≤ p.1) (hin : hlIn (idsIn hl) hl') (hr : V.menIn (idsIn hl) r = true) (h : exec ⟨pg, ct, ow, 38, anL [(3, [0, 0, 0, 6, 0, 0, 0, 96, 0, 0, 0, 1536, 3840, 7936, 0, 0, 0, 98304, 245760, 507904, 1048335, 2096911, 4194303, 8388607])], true, none⟩ code ⟨argE args, hOf hl⟩ (PostF pg.prog ad [] r hl')) : FCall pg 211 args hl r hl' := fcall_inF ad hc fol 211 n211 hb rfl e211 rfl (bodyOk_at o211 hb rfl) ha hlo hin hr h
end Go.Abs
