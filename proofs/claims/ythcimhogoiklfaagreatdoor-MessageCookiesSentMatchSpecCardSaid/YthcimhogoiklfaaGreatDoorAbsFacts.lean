import Derived.Test.YthcimhogoiklfaaGreatDoorAbsK2
import Derived.Test.YthcimhogoiklfaaGreatDoorRows
import Derived.Lib.TrailingZeros
import Derived.Lib.ItoaNum
/- facts of this seat's program: its types and functions, by their numbers -/
namespace Go.Abs
open Go Go.Proofs
set_option maxRecDepth 100000
def tabs (w : World) : Prop := Lib.TabIs Tryz.prog w "internal/strconv.uint64pow10" .u64 Lib.pow10Tab ∧ Lib.TabIs Tryz.prog w "math/bits.deBruijn64tab" .u8 (Lib.deBruijn64tab.map fun (n : Nat) => (n : Int)) ∧ ErrCell 4 w
noncomputable def pg : PG := mkPG Tryz.prog 8 fun w => tabs w ∧ w.ShapedOpen Tryz.prog
theorem tabPow {w : World} (h : pg.ok w) : Lib.TabIs Tryz.prog w "internal/strconv.uint64pow10" .u64 Lib.pow10Tab := by
  obtain ⟨w0, ⟨h1, _⟩, h2⟩ := h
  exact tabIs_same (g := 1) (by kernel_rfl) (by decide) h2 h1.1
theorem tabDb64 {w : World} (h : pg.ok w) : Lib.TabIs Tryz.prog w "math/bits.deBruijn64tab" .u8 (Lib.deBruijn64tab.map fun (n : Nat) => (n : Int)) := by
  obtain ⟨w0, ⟨h1, _⟩, h2⟩ := h
  exact tabIs_same (g := 7) (by kernel_rfl) (by decide) h2 h1.2.1
theorem errSyn {w : World} (h : pg.ok w) : ErrCell 4 w := by
  obtain ⟨w0, ⟨h1, _⟩, h2⟩ := h
  obtain ⟨ev, a, b⟩ := h1.2.2
  exact ⟨ev, by rw [cell_same (h2 4 (by decide))]; exact a, b⟩
theorem tabs_of {w : World} (l : List (String × DataW Unit)) (m0 : ("internal/strconv.uint64pow10", Lib.tabData .u64 Lib.pow10Tab) ∈ l) (m1 : ("math/bits.deBruijn64tab", Lib.tabData .u8 (Lib.deBruijn64tab.map fun (n : Nat) => (n : Int))) ∈ l) (me : ∃ d, ("strconv.ErrSyntax", d) ∈ l) (h : laidMet Tryz.prog l w) : tabs w := ⟨laidMet_cells (g := 1) (t := 193) (e := 169) (n := 20) (by kernel_rfl) (by kernel_rfl) (by kernel_rfl) (by kernel_rfl) (by kernel_rfl) (by kernel_rfl) l m0 h, laidMet_cells (g := 7) (t := 215) (e := 5) (n := 64) (by kernel_rfl) (by kernel_rfl) (by kernel_rfl) (by kernel_rfl) (by kernel_rfl) (by kernel_rfl) l m1 h, (match me with | ⟨d, hd⟩ => laidMet_iface (g := 4) (t := 92) (by kernel_rfl) (by kernel_rfl) (by kernel_rfl) l d hd h)⟩

@[push_cast] theorem pg_prog : pg.prog = Tryz.prog := rfl
theorem fol : Tryz.prog.follows .mixedOrders = true := by kernel_rfl
@[push_cast] theorem t1 : ti Tryz.prog 1 = ⟨.func, 1, 8, some (.con .nilFunc)⟩ := by kernel_rfl
@[push_cast] theorem t2 : ti Tryz.prog 2 = ⟨(.int .i64), 1, 8, some (.int .i64 0)⟩ := by kernel_rfl
@[push_cast] theorem t3 : ti Tryz.prog 3 = ⟨(.int .i64), 1, 8, some (.int .i64 0)⟩ := by kernel_rfl
@[push_cast] theorem t4 : ti Tryz.prog 4 = ⟨.bool, 1, 1, some (.bool false)⟩ := by kernel_rfl
@[push_cast] theorem t5 : ti Tryz.prog 5 = ⟨(.int .u8), 1, 1, some (.int .u8 0)⟩ := by kernel_rfl
@[push_cast] theorem t6 : ti Tryz.prog 6 = ⟨(.int .u8), 1, 1, some (.int .u8 0)⟩ := by kernel_rfl
@[push_cast] theorem eq7 : EqOk Tryz.prog 7 = True := eq_true (eqOk_of (by kernel_rfl))
@[push_cast] theorem t7 : ti Tryz.prog 7 = ⟨(.struct [(0, 2), (1, 3), (2, 4), (3, 6)]), 4, 24, some (.agg [(.int .i64 0), (.int .i64 0), (.bool false), (.int .u8 0)])⟩ := by kernel_rfl
@[push_cast] theorem eq8 : EqOk Tryz.prog 8 = True := eq_true (eqOk_of (by kernel_rfl))
@[push_cast] theorem t8 : ti Tryz.prog 8 = ⟨(.struct [(0, 2), (1, 3), (2, 4), (3, 6)]), 4, 24, some (.agg [(.int .i64 0), (.int .i64 0), (.bool false), (.int .u8 0)])⟩ := by kernel_rfl
@[push_cast] theorem t9 : ti Tryz.prog 9 = ⟨.str, 1, 16, some (.str [])⟩ := by kernel_rfl
@[push_cast] theorem t10 : ti Tryz.prog 10 = ⟨.str, 1, 16, some (.str [])⟩ := by kernel_rfl
@[push_cast] theorem t11 : ti Tryz.prog 11 = ⟨.str, 1, 16, some (.str [])⟩ := by kernel_rfl
@[push_cast] theorem t12 : ti Tryz.prog 12 = ⟨(.int .u64), 1, 8, some (.int .u64 0)⟩ := by kernel_rfl
@[push_cast] theorem t13 : ti Tryz.prog 13 = ⟨(.struct [(0, 9), (1, 12)]), 2, 24, some (.agg [(.str []), (.int .u64 0)])⟩ := by kernel_rfl
@[push_cast] theorem t14 : ti Tryz.prog 14 = ⟨(.struct [(0, 9), (1, 12)]), 2, 24, some (.agg [(.str []), (.int .u64 0)])⟩ := by kernel_rfl
@[push_cast] theorem t15 : ti Tryz.prog 15 = ⟨(.ptr 217), 1, 8, some (.con (.pointer none))⟩ := by kernel_rfl
@[push_cast] theorem t16 : ti Tryz.prog 16 = ⟨(.ptr 220), 1, 8, some (.con (.pointer none))⟩ := by kernel_rfl
@[push_cast] theorem t17 : ti Tryz.prog 17 = ⟨(.ptr 227), 1, 8, some (.con (.pointer none))⟩ := by kernel_rfl
@[push_cast] theorem t18 : ti Tryz.prog 18 = ⟨(.struct [(0, 17)]), 1, 8, some (.agg [(.con (.pointer none))])⟩ := by kernel_rfl
@[push_cast] theorem t19 : ti Tryz.prog 19 = ⟨(.struct [(0, 17)]), 1, 8, some (.agg [(.con (.pointer none))])⟩ := by kernel_rfl
@[push_cast] theorem t20 : ti Tryz.prog 20 = ⟨.iface, 1, 16, some (.con .nilIface)⟩ := by kernel_rfl
@[push_cast] theorem t21 : ti Tryz.prog 21 = ⟨(.int .i32), 1, 4, some (.int .i32 0)⟩ := by kernel_rfl
@[push_cast] theorem t22 : ti Tryz.prog 22 = ⟨(.slice 31), 1, 24, some .nilsl⟩ := by kernel_rfl
@[push_cast] theorem eq23 : EqOk Tryz.prog 23 = True := eq_true (eqOk_of (by kernel_rfl))
@[push_cast] theorem t23 : ti Tryz.prog 23 = ⟨(.struct [(0, 9), (1, 9), (2, 9), (3, 9), (4, 9), (5, 4), (6, 9), (7, 4)]), 8, 112, some (.agg [(.str []), (.str []), (.str []), (.str []), (.str []), (.bool false), (.str []), (.bool false)])⟩ := by kernel_rfl
@[push_cast] theorem eq24 : EqOk Tryz.prog 24 = True := eq_true (eqOk_of (by kernel_rfl))
@[push_cast] theorem t24 : ti Tryz.prog 24 = ⟨(.struct [(0, 9), (1, 9), (2, 9), (3, 9), (4, 9), (5, 4), (6, 9), (7, 4)]), 8, 112, some (.agg [(.str []), (.str []), (.str []), (.str []), (.str []), (.bool false), (.str []), (.bool false)])⟩ := by kernel_rfl
@[push_cast] theorem t25 : ti Tryz.prog 25 = ⟨(.int .i64), 1, 8, some (.int .i64 0)⟩ := by kernel_rfl
@[push_cast] theorem t27 : ti Tryz.prog 27 = ⟨.func, 1, 8, some (.con .nilFunc)⟩ := by kernel_rfl
@[push_cast] theorem t28 : ti Tryz.prog 28 = ⟨.func, 1, 8, some (.con .nilFunc)⟩ := by kernel_rfl
@[push_cast] theorem t29 : ti Tryz.prog 29 = ⟨.func, 1, 8, some (.con .nilFunc)⟩ := by kernel_rfl
@[push_cast] theorem eq30 : EqOk Tryz.prog 30 = True := eq_true (eqOk_of (by kernel_rfl))
@[push_cast] theorem t30 : ti Tryz.prog 30 = ⟨(.struct [(0, 9), (1, 9), (2, 9), (3, 4), (4, 9), (5, 4), (6, 3), (7, 3)]), 8, 96, some (.agg [(.str []), (.str []), (.str []), (.bool false), (.str []), (.bool false), (.int .i64 0), (.int .i64 0)])⟩ := by kernel_rfl
@[push_cast] theorem eq31 : EqOk Tryz.prog 31 = True := eq_true (eqOk_of (by kernel_rfl))
@[push_cast] theorem t31 : ti Tryz.prog 31 = ⟨(.struct [(0, 9), (1, 9), (2, 9), (3, 4), (4, 9), (5, 4), (6, 3), (7, 3)]), 8, 96, some (.agg [(.str []), (.str []), (.str []), (.bool false), (.str []), (.bool false), (.int .i64 0), (.int .i64 0)])⟩ := by kernel_rfl
@[push_cast] theorem t33 : ti Tryz.prog 33 = ⟨.func, 1, 8, some (.con .nilFunc)⟩ := by kernel_rfl
@[push_cast] theorem t35 : ti Tryz.prog 35 = ⟨.func, 1, 8, some (.con .nilFunc)⟩ := by kernel_rfl
@[push_cast] theorem t36 : ti Tryz.prog 36 = ⟨.func, 1, 8, some (.con .nilFunc)⟩ := by kernel_rfl
@[push_cast] theorem t37 : ti Tryz.prog 37 = ⟨(.slice 80), 1, 24, some .nilsl⟩ := by kernel_rfl
@[push_cast] theorem t38 : ti Tryz.prog 38 = ⟨(.slice 9), 1, 24, some .nilsl⟩ := by kernel_rfl
@[push_cast] theorem t39 : ti Tryz.prog 39 = ⟨(.struct [(0, 37), (1, 38)]), 2, 48, some (.agg [.nilsl, .nilsl])⟩ := by kernel_rfl
@[push_cast] theorem t40 : ti Tryz.prog 40 = ⟨(.struct [(0, 37), (1, 38)]), 2, 48, some (.agg [.nilsl, .nilsl])⟩ := by kernel_rfl
@[push_cast] theorem t42 : ti Tryz.prog 42 = ⟨.func, 1, 8, some (.con .nilFunc)⟩ := by kernel_rfl
@[push_cast] theorem t43 : ti Tryz.prog 43 = ⟨.func, 1, 8, some (.con .nilFunc)⟩ := by kernel_rfl
@[push_cast] theorem t44 : ti Tryz.prog 44 = ⟨.func, 1, 8, some (.con .nilFunc)⟩ := by kernel_rfl
@[push_cast] theorem t45 : ti Tryz.prog 45 = ⟨.func, 1, 8, some (.con .nilFunc)⟩ := by kernel_rfl
@[push_cast] theorem t46 : ti Tryz.prog 46 = ⟨.func, 1, 8, some (.con .nilFunc)⟩ := by kernel_rfl
@[push_cast] theorem t47 : ti Tryz.prog 47 = ⟨.func, 1, 8, some (.con .nilFunc)⟩ := by kernel_rfl
@[push_cast] theorem t48 : ti Tryz.prog 48 = ⟨.func, 1, 8, some (.con .nilFunc)⟩ := by kernel_rfl
@[push_cast] theorem t49 : ti Tryz.prog 49 = ⟨.func, 1, 8, some (.con .nilFunc)⟩ := by kernel_rfl
@[push_cast] theorem t50 : ti Tryz.prog 50 = ⟨.func, 1, 8, some (.con .nilFunc)⟩ := by kernel_rfl
@[push_cast] theorem t51 : ti Tryz.prog 51 = ⟨.func, 1, 8, some (.con .nilFunc)⟩ := by kernel_rfl
@[push_cast] theorem t52 : ti Tryz.prog 52 = ⟨.func, 1, 8, some (.con .nilFunc)⟩ := by kernel_rfl
@[push_cast] theorem t53 : ti Tryz.prog 53 = ⟨.func, 1, 8, some (.con .nilFunc)⟩ := by kernel_rfl
@[push_cast] theorem t54 : ti Tryz.prog 54 = ⟨.func, 1, 8, some (.con .nilFunc)⟩ := by kernel_rfl
@[push_cast] theorem t55 : ti Tryz.prog 55 = ⟨.func, 1, 8, some (.con .nilFunc)⟩ := by kernel_rfl
@[push_cast] theorem t56 : ti Tryz.prog 56 = ⟨.func, 1, 8, some (.con .nilFunc)⟩ := by kernel_rfl
@[push_cast] theorem t57 : ti Tryz.prog 57 = ⟨.func, 1, 8, some (.con .nilFunc)⟩ := by kernel_rfl
@[push_cast] theorem t58 : ti Tryz.prog 58 = ⟨.func, 1, 8, some (.con .nilFunc)⟩ := by kernel_rfl
@[push_cast] theorem t59 : ti Tryz.prog 59 = ⟨.func, 1, 8, some (.con .nilFunc)⟩ := by kernel_rfl
@[push_cast] theorem t60 : ti Tryz.prog 60 = ⟨.func, 1, 8, some (.con .nilFunc)⟩ := by kernel_rfl
@[push_cast] theorem t62 : ti Tryz.prog 62 = ⟨.func, 1, 8, some (.con .nilFunc)⟩ := by kernel_rfl
@[push_cast] theorem t63 : ti Tryz.prog 63 = ⟨(.map 9 9), 1, 8, some (.con (.map none))⟩ := by kernel_rfl
@[push_cast] theorem t64 : ti Tryz.prog 64 = ⟨.func, 1, 8, some (.con .nilFunc)⟩ := by kernel_rfl
@[push_cast] theorem t65 : ti Tryz.prog 65 = ⟨.func, 1, 8, some (.con .nilFunc)⟩ := by kernel_rfl
@[push_cast] theorem t66 : ti Tryz.prog 66 = ⟨.func, 1, 8, some (.con .nilFunc)⟩ := by kernel_rfl
@[push_cast] theorem t68 : ti Tryz.prog 68 = ⟨.func, 1, 8, some (.con .nilFunc)⟩ := by kernel_rfl
@[push_cast] theorem t69 : ti Tryz.prog 69 = ⟨.func, 1, 8, some (.con .nilFunc)⟩ := by kernel_rfl
@[push_cast] theorem t70 : ti Tryz.prog 70 = ⟨.func, 1, 8, some (.con .nilFunc)⟩ := by kernel_rfl
@[push_cast] theorem t71 : ti Tryz.prog 71 = ⟨.func, 1, 8, some (.con .nilFunc)⟩ := by kernel_rfl
@[push_cast] theorem t72 : ti Tryz.prog 72 = ⟨.func, 1, 8, some (.con .nilFunc)⟩ := by kernel_rfl
@[push_cast] theorem t73 : ti Tryz.prog 73 = ⟨.func, 1, 8, some (.con .nilFunc)⟩ := by kernel_rfl
@[push_cast] theorem t74 : ti Tryz.prog 74 = ⟨(.struct [(0, 40), (2, 4), (3, 4)]), 4, 56, some (.agg [.nilsl, .nilsl, (.bool false), (.bool false)])⟩ := by kernel_rfl
@[push_cast] theorem t75 : ti Tryz.prog 75 = ⟨(.struct [(0, 40), (2, 4), (3, 4)]), 4, 56, some (.agg [.nilsl, .nilsl, (.bool false), (.bool false)])⟩ := by kernel_rfl
@[push_cast] theorem t76 : ti Tryz.prog 76 = ⟨.func, 1, 8, some (.con .nilFunc)⟩ := by kernel_rfl
@[push_cast] theorem t77 : ti Tryz.prog 77 = ⟨.func, 1, 8, some (.con .nilFunc)⟩ := by kernel_rfl
@[push_cast] theorem t78 : ti Tryz.prog 78 = ⟨(.slice 98), 1, 24, some .nilsl⟩ := by kernel_rfl
@[push_cast] theorem t79 : ti Tryz.prog 79 = ⟨(.struct [(0, 38), (1, 78), (2, 3)]), 3, 56, some (.agg [.nilsl, .nilsl, (.int .i64 0)])⟩ := by kernel_rfl
@[push_cast] theorem t80 : ti Tryz.prog 80 = ⟨(.struct [(0, 38), (1, 78), (2, 3)]), 3, 56, some (.agg [.nilsl, .nilsl, (.int .i64 0)])⟩ := by kernel_rfl
@[push_cast] theorem t81 : ti Tryz.prog 81 = ⟨.func, 1, 8, some (.con .nilFunc)⟩ := by kernel_rfl
@[push_cast] theorem t83 : ti Tryz.prog 83 = ⟨.func, 1, 8, some (.con .nilFunc)⟩ := by kernel_rfl
@[push_cast] theorem t84 : ti Tryz.prog 84 = ⟨.func, 1, 8, some (.con .nilFunc)⟩ := by kernel_rfl
@[push_cast] theorem t86 : ti Tryz.prog 86 = ⟨.func, 1, 8, some (.con .nilFunc)⟩ := by kernel_rfl
@[push_cast] theorem t87 : ti Tryz.prog 87 = ⟨(.ptr 90), 1, 8, some (.con (.pointer none))⟩ := by kernel_rfl
@[push_cast] theorem t88 : ti Tryz.prog 88 = ⟨(.slice 5), 1, 24, some .nilsl⟩ := by kernel_rfl
@[push_cast] theorem t89 : ti Tryz.prog 89 = ⟨(.struct [(0, 87), (1, 88)]), 2, 32, some (.agg [(.con (.pointer none)), .nilsl])⟩ := by kernel_rfl
@[push_cast] theorem t90 : ti Tryz.prog 90 = ⟨(.struct [(0, 87), (1, 88)]), 2, 32, some (.agg [(.con (.pointer none)), .nilsl])⟩ := by kernel_rfl
@[push_cast] theorem t91 : ti Tryz.prog 91 = ⟨.iface, 1, 16, some (.con .nilIface)⟩ := by kernel_rfl
@[push_cast] theorem t92 : ti Tryz.prog 92 = ⟨.iface, 1, 16, some (.con .nilIface)⟩ := by kernel_rfl
@[push_cast] theorem t94 : ti Tryz.prog 94 = ⟨.func, 1, 8, some (.con .nilFunc)⟩ := by kernel_rfl
@[push_cast] theorem t95 : ti Tryz.prog 95 = ⟨.func, 1, 8, some (.con .nilFunc)⟩ := by kernel_rfl
@[push_cast] theorem t96 : ti Tryz.prog 96 = ⟨.func, 1, 8, some (.con .nilFunc)⟩ := by kernel_rfl
@[push_cast] theorem eq97 : EqOk Tryz.prog 97 = True := eq_true (eqOk_of (by kernel_rfl))
@[push_cast] theorem t97 : ti Tryz.prog 97 = ⟨(.struct [(0, 4), (1, 9)]), 2, 24, some (.agg [(.bool false), (.str [])])⟩ := by kernel_rfl
@[push_cast] theorem eq98 : EqOk Tryz.prog 98 = True := eq_true (eqOk_of (by kernel_rfl))
@[push_cast] theorem t98 : ti Tryz.prog 98 = ⟨(.struct [(0, 4), (1, 9)]), 2, 24, some (.agg [(.bool false), (.str [])])⟩ := by kernel_rfl
@[push_cast] theorem t99 : ti Tryz.prog 99 = ⟨.func, 1, 8, some (.con .nilFunc)⟩ := by kernel_rfl
@[push_cast] theorem t100 : ti Tryz.prog 100 = ⟨.func, 1, 8, some (.con .nilFunc)⟩ := by kernel_rfl
@[push_cast] theorem t101 : ti Tryz.prog 101 = ⟨.func, 1, 8, some (.con .nilFunc)⟩ := by kernel_rfl
@[push_cast] theorem t102 : ti Tryz.prog 102 = ⟨.func, 1, 8, some (.con .nilFunc)⟩ := by kernel_rfl
@[push_cast] theorem t103 : ti Tryz.prog 103 = ⟨(.struct [(0, 40), (2, 4), (3, 9)]), 4, 72, some (.agg [.nilsl, .nilsl, (.bool false), (.str [])])⟩ := by kernel_rfl
@[push_cast] theorem t104 : ti Tryz.prog 104 = ⟨(.struct [(0, 40), (2, 4), (3, 9)]), 4, 72, some (.agg [.nilsl, .nilsl, (.bool false), (.str [])])⟩ := by kernel_rfl
@[push_cast] theorem t105 : ti Tryz.prog 105 = ⟨.func, 1, 8, some (.con .nilFunc)⟩ := by kernel_rfl
@[push_cast] theorem t106 : ti Tryz.prog 106 = ⟨.func, 1, 8, some (.con .nilFunc)⟩ := by kernel_rfl
@[push_cast] theorem t107 : ti Tryz.prog 107 = ⟨.func, 1, 8, some (.con .nilFunc)⟩ := by kernel_rfl
@[push_cast] theorem t108 : ti Tryz.prog 108 = ⟨.func, 1, 8, some (.con .nilFunc)⟩ := by kernel_rfl
@[push_cast] theorem t109 : ti Tryz.prog 109 = ⟨.func, 1, 8, some (.con .nilFunc)⟩ := by kernel_rfl
@[push_cast] theorem t110 : ti Tryz.prog 110 = ⟨.func, 1, 8, some (.con .nilFunc)⟩ := by kernel_rfl
@[push_cast] theorem t111 : ti Tryz.prog 111 = ⟨.func, 1, 8, some (.con .nilFunc)⟩ := by kernel_rfl
@[push_cast] theorem t112 : ti Tryz.prog 112 = ⟨(.slice 3), 1, 24, some .nilsl⟩ := by kernel_rfl
@[push_cast] theorem t113 : ti Tryz.prog 113 = ⟨.func, 1, 8, some (.con .nilFunc)⟩ := by kernel_rfl
@[push_cast] theorem t114 : ti Tryz.prog 114 = ⟨.func, 1, 8, some (.con .nilFunc)⟩ := by kernel_rfl
@[push_cast] theorem t116 : ti Tryz.prog 116 = ⟨.func, 1, 8, some (.con .nilFunc)⟩ := by kernel_rfl
@[push_cast] theorem t117 : ti Tryz.prog 117 = ⟨.func, 1, 8, some (.con .nilFunc)⟩ := by kernel_rfl
@[push_cast] theorem t118 : ti Tryz.prog 118 = ⟨.func, 1, 8, some (.con .nilFunc)⟩ := by kernel_rfl
@[push_cast] theorem t119 : ti Tryz.prog 119 = ⟨(.ptr 75), 1, 8, some (.con (.pointer none))⟩ := by kernel_rfl
@[push_cast] theorem t120 : ti Tryz.prog 120 = ⟨.func, 1, 8, some (.con .nilFunc)⟩ := by kernel_rfl
@[push_cast] theorem t122 : ti Tryz.prog 122 = ⟨.func, 1, 8, some (.con .nilFunc)⟩ := by kernel_rfl
@[push_cast] theorem t123 : ti Tryz.prog 123 = ⟨(.ptr 125), 1, 8, some (.con (.pointer none))⟩ := by kernel_rfl
@[push_cast] theorem t124 : ti Tryz.prog 124 = ⟨(.struct [(0, 9), (1, 3), (2, 24)]), 10, 136, some (.agg [(.str []), (.int .i64 0), (.str []), (.str []), (.str []), (.str []), (.str []), (.bool false), (.str []), (.bool false)])⟩ := by kernel_rfl
@[push_cast] theorem t125 : ti Tryz.prog 125 = ⟨(.struct [(0, 9), (1, 3), (2, 24)]), 10, 136, some (.agg [(.str []), (.int .i64 0), (.str []), (.str []), (.str []), (.str []), (.str []), (.bool false), (.str []), (.bool false)])⟩ := by kernel_rfl
@[push_cast] theorem t126 : ti Tryz.prog 126 = ⟨(.ptr 5), 1, 8, some (.con (.pointer none))⟩ := by kernel_rfl
@[push_cast] theorem t127 : ti Tryz.prog 127 = ⟨.func, 1, 8, some (.con .nilFunc)⟩ := by kernel_rfl
@[push_cast] theorem t128 : ti Tryz.prog 128 = ⟨.func, 1, 8, some (.con .nilFunc)⟩ := by kernel_rfl
@[push_cast] theorem t129 : ti Tryz.prog 129 = ⟨(.ptr 104), 1, 8, some (.con (.pointer none))⟩ := by kernel_rfl
@[push_cast] theorem t130 : ti Tryz.prog 130 = ⟨.func, 1, 8, some (.con .nilFunc)⟩ := by kernel_rfl
@[push_cast] theorem t131 : ti Tryz.prog 131 = ⟨.func, 1, 8, some (.con .nilFunc)⟩ := by kernel_rfl
@[push_cast] theorem t132 : ti Tryz.prog 132 = ⟨.func, 1, 8, some (.con .nilFunc)⟩ := by kernel_rfl
@[push_cast] theorem t133 : ti Tryz.prog 133 = ⟨.func, 1, 8, some (.con .nilFunc)⟩ := by kernel_rfl
@[push_cast] theorem t134 : ti Tryz.prog 134 = ⟨.func, 1, 8, some (.con .nilFunc)⟩ := by kernel_rfl
@[push_cast] theorem eq135 : EqOk Tryz.prog 135 = True := eq_true (eqOk_of (by kernel_rfl))
@[push_cast] theorem t135 : ti Tryz.prog 135 = ⟨(.struct [(0, 3), (1, 3), (2, 3), (3, 3), (4, 3), (5, 3)]), 6, 48, some (.agg [(.int .i64 0), (.int .i64 0), (.int .i64 0), (.int .i64 0), (.int .i64 0), (.int .i64 0)])⟩ := by kernel_rfl
@[push_cast] theorem eq136 : EqOk Tryz.prog 136 = True := eq_true (eqOk_of (by kernel_rfl))
@[push_cast] theorem t136 : ti Tryz.prog 136 = ⟨(.struct [(0, 3), (1, 3), (2, 3), (3, 3), (4, 3), (5, 3)]), 6, 48, some (.agg [(.int .i64 0), (.int .i64 0), (.int .i64 0), (.int .i64 0), (.int .i64 0), (.int .i64 0)])⟩ := by kernel_rfl
@[push_cast] theorem t137 : ti Tryz.prog 137 = ⟨.func, 1, 8, some (.con .nilFunc)⟩ := by kernel_rfl
@[push_cast] theorem t138 : ti Tryz.prog 138 = ⟨.func, 1, 8, some (.con .nilFunc)⟩ := by kernel_rfl
@[push_cast] theorem t139 : ti Tryz.prog 139 = ⟨.func, 1, 8, some (.con .nilFunc)⟩ := by kernel_rfl
@[push_cast] theorem t140 : ti Tryz.prog 140 = ⟨.func, 1, 8, some (.con .nilFunc)⟩ := by kernel_rfl
@[push_cast] theorem t141 : ti Tryz.prog 141 = ⟨.func, 1, 8, some (.con .nilFunc)⟩ := by kernel_rfl
@[push_cast] theorem t142 : ti Tryz.prog 142 = ⟨.func, 1, 8, some (.con .nilFunc)⟩ := by kernel_rfl
@[push_cast] theorem t143 : ti Tryz.prog 143 = ⟨(.arr 256 4), 256, 256, some (.agg [(.bool false), (.bool false), (.bool false), (.bool false), (.bool false), (.bool false), (.bool false), (.bool false), (.bool false), (.bool false), (.bool false), (.bool false), (.bool false), (.bool false), (.bool false), (.bool false), (.bool false), (.bool false), (.bool false), (.bool false), (.bool false), (.bool false), (.bool false), (.bool false), (.bool false), (.bool false), (.bool false), (.bool false), (.bool false), (.bool false), (.bool false), (.bool false), (.bool false), (.bool false), (.bool false), (.bool false), (.bool false), (.bool false), (.bool false), (.bool false), (.bool false), (.bool false), (.bool false), (.bool false), (.bool false), (.bool false), (.bool false), (.bool false), (.bool false), (.bool false), (.bool false), (.bool false), (.bool false), (.bool false), (.bool false), (.bool false), (.bool false), (.bool false), (.bool false), (.bool false), (.bool false), (.bool false), (.bool false), (.bool false), (.bool false), (.bool false), (.bool false), (.bool false), (.bool false), (.bool false), (.bool false), (.bool false), (.bool false), (.bool false), (.bool false), (.bool false), (.bool false), (.bool false), (.bool false), (.bool false), (.bool false), (.bool false), (.bool false), (.bool false), (.bool false), (.bool false), (.bool false), (.bool false), (.bool false), (.bool false), (.bool false), (.bool false), (.bool false), (.bool false), (.bool false), (.bool false), (.bool false), (.bool false), (.bool false), (.bool false), (.bool false), (.bool false), (.bool false), (.bool false), (.bool false), (.bool false), (.bool false), (.bool false), (.bool false), (.bool false), (.bool false), (.bool false), (.bool false), (.bool false), (.bool false), (.bool false), (.bool false), (.bool false), (.bool false), (.bool false), (.bool false), (.bool false), (.bool false), (.bool false), (.bool false), (.bool false), (.bool false), (.bool false), (.bool false), (.bool false), (.bool false), (.bool false), (.bool false), (.bool false), (.bool false), (.bool false), (.bool false), (.bool false), (.bool false), (.bool false), (.bool false), (.bool false), (.bool false), (.bool false), (.bool false), (.bool false), (.bool false), (.bool false), (.bool false), (.bool false), (.bool false), (.bool false), (.bool false), (.bool false), (.bool false), (.bool false), (.bool false), (.bool false), (.bool false), (.bool false), (.bool false), (.bool false), (.bool false), (.bool false), (.bool false), (.bool false), (.bool false), (.bool false), (.bool false), (.bool false), (.bool false), (.bool false), (.bool false), (.bool false), (.bool false), (.bool false), (.bool false), (.bool false), (.bool false), (.bool false), (.bool false), (.bool false), (.bool false), (.bool false), (.bool false), (.bool false), (.bool false), (.bool false), (.bool false), (.bool false), (.bool false), (.bool false), (.bool false), (.bool false), (.bool false), (.bool false), (.bool false), (.bool false), (.bool false), (.bool false), (.bool false), (.bool false), (.bool false), (.bool false), (.bool false), (.bool false), (.bool false), (.bool false), (.bool false), (.bool false), (.bool false), (.bool false), (.bool false), (.bool false), (.bool false), (.bool false), (.bool false), (.bool false), (.bool false), (.bool false), (.bool false), (.bool false), (.bool false), (.bool false), (.bool false), (.bool false), (.bool false), (.bool false), (.bool false), (.bool false), (.bool false), (.bool false), (.bool false), (.bool false), (.bool false), (.bool false), (.bool false), (.bool false), (.bool false), (.bool false), (.bool false), (.bool false), (.bool false), (.bool false), (.bool false), (.bool false), (.bool false), (.bool false), (.bool false), (.bool false), (.bool false), (.bool false), (.bool false), (.bool false), (.bool false), (.bool false)])⟩ := by kernel_rfl
@[push_cast] theorem t144 : ti Tryz.prog 144 = ⟨(.arr 256 4), 256, 256, some (.agg [(.bool false), (.bool false), (.bool false), (.bool false), (.bool false), (.bool false), (.bool false), (.bool false), (.bool false), (.bool false), (.bool false), (.bool false), (.bool false), (.bool false), (.bool false), (.bool false), (.bool false), (.bool false), (.bool false), (.bool false), (.bool false), (.bool false), (.bool false), (.bool false), (.bool false), (.bool false), (.bool false), (.bool false), (.bool false), (.bool false), (.bool false), (.bool false), (.bool false), (.bool false), (.bool false), (.bool false), (.bool false), (.bool false), (.bool false), (.bool false), (.bool false), (.bool false), (.bool false), (.bool false), (.bool false), (.bool false), (.bool false), (.bool false), (.bool false), (.bool false), (.bool false), (.bool false), (.bool false), (.bool false), (.bool false), (.bool false), (.bool false), (.bool false), (.bool false), (.bool false), (.bool false), (.bool false), (.bool false), (.bool false), (.bool false), (.bool false), (.bool false), (.bool false), (.bool false), (.bool false), (.bool false), (.bool false), (.bool false), (.bool false), (.bool false), (.bool false), (.bool false), (.bool false), (.bool false), (.bool false), (.bool false), (.bool false), (.bool false), (.bool false), (.bool false), (.bool false), (.bool false), (.bool false), (.bool false), (.bool false), (.bool false), (.bool false), (.bool false), (.bool false), (.bool false), (.bool false), (.bool false), (.bool false), (.bool false), (.bool false), (.bool false), (.bool false), (.bool false), (.bool false), (.bool false), (.bool false), (.bool false), (.bool false), (.bool false), (.bool false), (.bool false), (.bool false), (.bool false), (.bool false), (.bool false), (.bool false), (.bool false), (.bool false), (.bool false), (.bool false), (.bool false), (.bool false), (.bool false), (.bool false), (.bool false), (.bool false), (.bool false), (.bool false), (.bool false), (.bool false), (.bool false), (.bool false), (.bool false), (.bool false), (.bool false), (.bool false), (.bool false), (.bool false), (.bool false), (.bool false), (.bool false), (.bool false), (.bool false), (.bool false), (.bool false), (.bool false), (.bool false), (.bool false), (.bool false), (.bool false), (.bool false), (.bool false), (.bool false), (.bool false), (.bool false), (.bool false), (.bool false), (.bool false), (.bool false), (.bool false), (.bool false), (.bool false), (.bool false), (.bool false), (.bool false), (.bool false), (.bool false), (.bool false), (.bool false), (.bool false), (.bool false), (.bool false), (.bool false), (.bool false), (.bool false), (.bool false), (.bool false), (.bool false), (.bool false), (.bool false), (.bool false), (.bool false), (.bool false), (.bool false), (.bool false), (.bool false), (.bool false), (.bool false), (.bool false), (.bool false), (.bool false), (.bool false), (.bool false), (.bool false), (.bool false), (.bool false), (.bool false), (.bool false), (.bool false), (.bool false), (.bool false), (.bool false), (.bool false), (.bool false), (.bool false), (.bool false), (.bool false), (.bool false), (.bool false), (.bool false), (.bool false), (.bool false), (.bool false), (.bool false), (.bool false), (.bool false), (.bool false), (.bool false), (.bool false), (.bool false), (.bool false), (.bool false), (.bool false), (.bool false), (.bool false), (.bool false), (.bool false), (.bool false), (.bool false), (.bool false), (.bool false), (.bool false), (.bool false), (.bool false), (.bool false), (.bool false), (.bool false), (.bool false), (.bool false), (.bool false), (.bool false), (.bool false), (.bool false), (.bool false), (.bool false), (.bool false), (.bool false), (.bool false), (.bool false), (.bool false), (.bool false), (.bool false), (.bool false), (.bool false), (.bool false), (.bool false)])⟩ := by kernel_rfl
@[push_cast] theorem t146 : ti Tryz.prog 146 = ⟨.func, 1, 8, some (.con .nilFunc)⟩ := by kernel_rfl
@[push_cast] theorem t147 : ti Tryz.prog 147 = ⟨.func, 1, 8, some (.con .nilFunc)⟩ := by kernel_rfl
@[push_cast] theorem t148 : ti Tryz.prog 148 = ⟨(.ptr 144), 1, 8, some (.con (.pointer none))⟩ := by kernel_rfl
@[push_cast] theorem t149 : ti Tryz.prog 149 = ⟨(.ptr 80), 1, 8, some (.con (.pointer none))⟩ := by kernel_rfl
@[push_cast] theorem t150 : ti Tryz.prog 150 = ⟨.func, 1, 8, some (.con .nilFunc)⟩ := by kernel_rfl
@[push_cast] theorem t151 : ti Tryz.prog 151 = ⟨.func, 1, 8, some (.con .nilFunc)⟩ := by kernel_rfl
@[push_cast] theorem t152 : ti Tryz.prog 152 = ⟨.func, 1, 8, some (.con .nilFunc)⟩ := by kernel_rfl
@[push_cast] theorem t153 : ti Tryz.prog 153 = ⟨.other, 1, 8, some (.con (.pointer none))⟩ := by kernel_rfl
@[push_cast] theorem t154 : ti Tryz.prog 154 = ⟨.func, 1, 8, some (.con .nilFunc)⟩ := by kernel_rfl
@[push_cast] theorem t155 : ti Tryz.prog 155 = ⟨.func, 1, 8, some (.con .nilFunc)⟩ := by kernel_rfl
@[push_cast] theorem t157 : ti Tryz.prog 157 = ⟨.func, 1, 8, some (.con .nilFunc)⟩ := by kernel_rfl
@[push_cast] theorem t158 : ti Tryz.prog 158 = ⟨.func, 1, 8, some (.con .nilFunc)⟩ := by kernel_rfl
@[push_cast] theorem t160 : ti Tryz.prog 160 = ⟨.func, 1, 8, some (.con .nilFunc)⟩ := by kernel_rfl
@[push_cast] theorem t161 : ti Tryz.prog 161 = ⟨(.int .u64), 1, 8, some (.int .u64 0)⟩ := by kernel_rfl
@[push_cast] theorem t162 : ti Tryz.prog 162 = ⟨.func, 1, 8, some (.con .nilFunc)⟩ := by kernel_rfl
@[push_cast] theorem t163 : ti Tryz.prog 163 = ⟨.func, 1, 8, some (.con .nilFunc)⟩ := by kernel_rfl
@[push_cast] theorem t164 : ti Tryz.prog 164 = ⟨.func, 1, 8, some (.con .nilFunc)⟩ := by kernel_rfl
@[push_cast] theorem t165 : ti Tryz.prog 165 = ⟨.func, 1, 8, some (.con .nilFunc)⟩ := by kernel_rfl
@[push_cast] theorem t166 : ti Tryz.prog 166 = ⟨(.slice 4), 1, 24, some .nilsl⟩ := by kernel_rfl
@[push_cast] theorem t167 : ti Tryz.prog 167 = ⟨.func, 1, 8, some (.con .nilFunc)⟩ := by kernel_rfl
@[push_cast] theorem t168 : ti Tryz.prog 168 = ⟨(.arr 24 5), 24, 24, some (.agg [(.int .u8 0), (.int .u8 0), (.int .u8 0), (.int .u8 0), (.int .u8 0), (.int .u8 0), (.int .u8 0), (.int .u8 0), (.int .u8 0), (.int .u8 0), (.int .u8 0), (.int .u8 0), (.int .u8 0), (.int .u8 0), (.int .u8 0), (.int .u8 0), (.int .u8 0), (.int .u8 0), (.int .u8 0), (.int .u8 0), (.int .u8 0), (.int .u8 0), (.int .u8 0), (.int .u8 0)])⟩ := by kernel_rfl
@[push_cast] theorem t169 : ti Tryz.prog 169 = ⟨(.int .u64), 1, 8, some (.int .u64 0)⟩ := by kernel_rfl
@[push_cast] theorem t170 : ti Tryz.prog 170 = ⟨.func, 1, 8, some (.con .nilFunc)⟩ := by kernel_rfl
@[push_cast] theorem t171 : ti Tryz.prog 171 = ⟨.func, 1, 8, some (.con .nilFunc)⟩ := by kernel_rfl
@[push_cast] theorem t173 : ti Tryz.prog 173 = ⟨.func, 1, 8, some (.con .nilFunc)⟩ := by kernel_rfl
@[push_cast] theorem t174 : ti Tryz.prog 174 = ⟨(.int .i64), 1, 8, some (.int .i64 0)⟩ := by kernel_rfl
@[push_cast] theorem t176 : ti Tryz.prog 176 = ⟨.func, 1, 8, some (.con .nilFunc)⟩ := by kernel_rfl
@[push_cast] theorem t177 : ti Tryz.prog 177 = ⟨(.ptr 203), 1, 8, some (.con (.pointer none))⟩ := by kernel_rfl
@[push_cast] theorem t178 : ti Tryz.prog 178 = ⟨.func, 1, 8, some (.con .nilFunc)⟩ := by kernel_rfl
@[push_cast] theorem t179 : ti Tryz.prog 179 = ⟨.func, 1, 8, some (.con .nilFunc)⟩ := by kernel_rfl
@[push_cast] theorem t180 : ti Tryz.prog 180 = ⟨(.ptr 182), 1, 8, some (.con (.pointer none))⟩ := by kernel_rfl
@[push_cast] theorem eq181 : EqOk Tryz.prog 181 = True := eq_true (eqOk_of (by kernel_rfl))
@[push_cast] theorem t181 : ti Tryz.prog 181 = ⟨(.struct [(0, 9), (1, 3), (2, 3)]), 3, 32, some (.agg [(.str []), (.int .i64 0), (.int .i64 0)])⟩ := by kernel_rfl
@[push_cast] theorem eq182 : EqOk Tryz.prog 182 = True := eq_true (eqOk_of (by kernel_rfl))
@[push_cast] theorem t182 : ti Tryz.prog 182 = ⟨(.struct [(0, 9), (1, 3), (2, 3)]), 3, 32, some (.agg [(.str []), (.int .i64 0), (.int .i64 0)])⟩ := by kernel_rfl
@[push_cast] theorem t183 : ti Tryz.prog 183 = ⟨.func, 1, 8, some (.con .nilFunc)⟩ := by kernel_rfl
@[push_cast] theorem t185 : ti Tryz.prog 185 = ⟨.func, 1, 8, some (.con .nilFunc)⟩ := by kernel_rfl
@[push_cast] theorem t186 : ti Tryz.prog 186 = ⟨(.int .u32), 1, 4, some (.int .u32 0)⟩ := by kernel_rfl
@[push_cast] theorem t188 : ti Tryz.prog 188 = ⟨.func, 1, 8, some (.con .nilFunc)⟩ := by kernel_rfl
@[push_cast] theorem t189 : ti Tryz.prog 189 = ⟨.func, 1, 8, some (.con .nilFunc)⟩ := by kernel_rfl
@[push_cast] theorem t190 : ti Tryz.prog 190 = ⟨.func, 1, 8, some (.con .nilFunc)⟩ := by kernel_rfl
@[push_cast] theorem t191 : ti Tryz.prog 191 = ⟨.func, 1, 8, some (.con .nilFunc)⟩ := by kernel_rfl
@[push_cast] theorem t192 : ti Tryz.prog 192 = ⟨.func, 1, 8, some (.con .nilFunc)⟩ := by kernel_rfl
@[push_cast] theorem t193 : ti Tryz.prog 193 = ⟨(.arr 20 169), 20, 160, some (.agg [(.int .u64 0), (.int .u64 0), (.int .u64 0), (.int .u64 0), (.int .u64 0), (.int .u64 0), (.int .u64 0), (.int .u64 0), (.int .u64 0), (.int .u64 0), (.int .u64 0), (.int .u64 0), (.int .u64 0), (.int .u64 0), (.int .u64 0), (.int .u64 0), (.int .u64 0), (.int .u64 0), (.int .u64 0), (.int .u64 0)])⟩ := by kernel_rfl
@[push_cast] theorem t194 : ti Tryz.prog 194 = ⟨(.arr 65 5), 65, 65, some (.agg [(.int .u8 0), (.int .u8 0), (.int .u8 0), (.int .u8 0), (.int .u8 0), (.int .u8 0), (.int .u8 0), (.int .u8 0), (.int .u8 0), (.int .u8 0), (.int .u8 0), (.int .u8 0), (.int .u8 0), (.int .u8 0), (.int .u8 0), (.int .u8 0), (.int .u8 0), (.int .u8 0), (.int .u8 0), (.int .u8 0), (.int .u8 0), (.int .u8 0), (.int .u8 0), (.int .u8 0), (.int .u8 0), (.int .u8 0), (.int .u8 0), (.int .u8 0), (.int .u8 0), (.int .u8 0), (.int .u8 0), (.int .u8 0), (.int .u8 0), (.int .u8 0), (.int .u8 0), (.int .u8 0), (.int .u8 0), (.int .u8 0), (.int .u8 0), (.int .u8 0), (.int .u8 0), (.int .u8 0), (.int .u8 0), (.int .u8 0), (.int .u8 0), (.int .u8 0), (.int .u8 0), (.int .u8 0), (.int .u8 0), (.int .u8 0), (.int .u8 0), (.int .u8 0), (.int .u8 0), (.int .u8 0), (.int .u8 0), (.int .u8 0), (.int .u8 0), (.int .u8 0), (.int .u8 0), (.int .u8 0), (.int .u8 0), (.int .u8 0), (.int .u8 0), (.int .u8 0), (.int .u8 0)])⟩ := by kernel_rfl
@[push_cast] theorem t195 : ti Tryz.prog 195 = ⟨.func, 1, 8, some (.con .nilFunc)⟩ := by kernel_rfl
@[push_cast] theorem t196 : ti Tryz.prog 196 = ⟨(.arr 256 5), 256, 256, some (.agg [(.int .u8 0), (.int .u8 0), (.int .u8 0), (.int .u8 0), (.int .u8 0), (.int .u8 0), (.int .u8 0), (.int .u8 0), (.int .u8 0), (.int .u8 0), (.int .u8 0), (.int .u8 0), (.int .u8 0), (.int .u8 0), (.int .u8 0), (.int .u8 0), (.int .u8 0), (.int .u8 0), (.int .u8 0), (.int .u8 0), (.int .u8 0), (.int .u8 0), (.int .u8 0), (.int .u8 0), (.int .u8 0), (.int .u8 0), (.int .u8 0), (.int .u8 0), (.int .u8 0), (.int .u8 0), (.int .u8 0), (.int .u8 0), (.int .u8 0), (.int .u8 0), (.int .u8 0), (.int .u8 0), (.int .u8 0), (.int .u8 0), (.int .u8 0), (.int .u8 0), (.int .u8 0), (.int .u8 0), (.int .u8 0), (.int .u8 0), (.int .u8 0), (.int .u8 0), (.int .u8 0), (.int .u8 0), (.int .u8 0), (.int .u8 0), (.int .u8 0), (.int .u8 0), (.int .u8 0), (.int .u8 0), (.int .u8 0), (.int .u8 0), (.int .u8 0), (.int .u8 0), (.int .u8 0), (.int .u8 0), (.int .u8 0), (.int .u8 0), (.int .u8 0), (.int .u8 0), (.int .u8 0), (.int .u8 0), (.int .u8 0), (.int .u8 0), (.int .u8 0), (.int .u8 0), (.int .u8 0), (.int .u8 0), (.int .u8 0), (.int .u8 0), (.int .u8 0), (.int .u8 0), (.int .u8 0), (.int .u8 0), (.int .u8 0), (.int .u8 0), (.int .u8 0), (.int .u8 0), (.int .u8 0), (.int .u8 0), (.int .u8 0), (.int .u8 0), (.int .u8 0), (.int .u8 0), (.int .u8 0), (.int .u8 0), (.int .u8 0), (.int .u8 0), (.int .u8 0), (.int .u8 0), (.int .u8 0), (.int .u8 0), (.int .u8 0), (.int .u8 0), (.int .u8 0), (.int .u8 0), (.int .u8 0), (.int .u8 0), (.int .u8 0), (.int .u8 0), (.int .u8 0), (.int .u8 0), (.int .u8 0), (.int .u8 0), (.int .u8 0), (.int .u8 0), (.int .u8 0), (.int .u8 0), (.int .u8 0), (.int .u8 0), (.int .u8 0), (.int .u8 0), (.int .u8 0), (.int .u8 0), (.int .u8 0), (.int .u8 0), (.int .u8 0), (.int .u8 0), (.int .u8 0), (.int .u8 0), (.int .u8 0), (.int .u8 0), (.int .u8 0), (.int .u8 0), (.int .u8 0), (.int .u8 0), (.int .u8 0), (.int .u8 0), (.int .u8 0), (.int .u8 0), (.int .u8 0), (.int .u8 0), (.int .u8 0), (.int .u8 0), (.int .u8 0), (.int .u8 0), (.int .u8 0), (.int .u8 0), (.int .u8 0), (.int .u8 0), (.int .u8 0), (.int .u8 0), (.int .u8 0), (.int .u8 0), (.int .u8 0), (.int .u8 0), (.int .u8 0), (.int .u8 0), (.int .u8 0), (.int .u8 0), (.int .u8 0), (.int .u8 0), (.int .u8 0), (.int .u8 0), (.int .u8 0), (.int .u8 0), (.int .u8 0), (.int .u8 0), (.int .u8 0), (.int .u8 0), (.int .u8 0), (.int .u8 0), (.int .u8 0), (.int .u8 0), (.int .u8 0), (.int .u8 0), (.int .u8 0), (.int .u8 0), (.int .u8 0), (.int .u8 0), (.int .u8 0), (.int .u8 0), (.int .u8 0), (.int .u8 0), (.int .u8 0), (.int .u8 0), (.int .u8 0), (.int .u8 0), (.int .u8 0), (.int .u8 0), (.int .u8 0), (.int .u8 0), (.int .u8 0), (.int .u8 0), (.int .u8 0), (.int .u8 0), (.int .u8 0), (.int .u8 0), (.int .u8 0), (.int .u8 0), (.int .u8 0), (.int .u8 0), (.int .u8 0), (.int .u8 0), (.int .u8 0), (.int .u8 0), (.int .u8 0), (.int .u8 0), (.int .u8 0), (.int .u8 0), (.int .u8 0), (.int .u8 0), (.int .u8 0), (.int .u8 0), (.int .u8 0), (.int .u8 0), (.int .u8 0), (.int .u8 0), (.int .u8 0), (.int .u8 0), (.int .u8 0), (.int .u8 0), (.int .u8 0), (.int .u8 0), (.int .u8 0), (.int .u8 0), (.int .u8 0), (.int .u8 0), (.int .u8 0), (.int .u8 0), (.int .u8 0), (.int .u8 0), (.int .u8 0), (.int .u8 0), (.int .u8 0), (.int .u8 0), (.int .u8 0), (.int .u8 0), (.int .u8 0), (.int .u8 0), (.int .u8 0), (.int .u8 0), (.int .u8 0), (.int .u8 0), (.int .u8 0), (.int .u8 0), (.int .u8 0), (.int .u8 0), (.int .u8 0), (.int .u8 0), (.int .u8 0), (.int .u8 0), (.int .u8 0), (.int .u8 0), (.int .u8 0), (.int .u8 0), (.int .u8 0), (.int .u8 0), (.int .u8 0), (.int .u8 0), (.int .u8 0), (.int .u8 0)])⟩ := by kernel_rfl
@[push_cast] theorem eq197 : EqOk Tryz.prog 197 = True := eq_true (eqOk_of (by kernel_rfl))
@[push_cast] theorem t197 : ti Tryz.prog 197 = ⟨(.struct [(0, 5), (1, 5)]), 2, 2, some (.agg [(.int .u8 0), (.int .u8 0)])⟩ := by kernel_rfl
@[push_cast] theorem eq198 : EqOk Tryz.prog 198 = True := eq_true (eqOk_of (by kernel_rfl))
@[push_cast] theorem t198 : ti Tryz.prog 198 = ⟨(.struct [(0, 5), (1, 5)]), 2, 2, some (.agg [(.int .u8 0), (.int .u8 0)])⟩ := by kernel_rfl
@[push_cast] theorem t199 : ti Tryz.prog 199 = ⟨(.arr 16 198), 32, 32, some (.agg [(.int .u8 0), (.int .u8 0), (.int .u8 0), (.int .u8 0), (.int .u8 0), (.int .u8 0), (.int .u8 0), (.int .u8 0), (.int .u8 0), (.int .u8 0), (.int .u8 0), (.int .u8 0), (.int .u8 0), (.int .u8 0), (.int .u8 0), (.int .u8 0), (.int .u8 0), (.int .u8 0), (.int .u8 0), (.int .u8 0), (.int .u8 0), (.int .u8 0), (.int .u8 0), (.int .u8 0), (.int .u8 0), (.int .u8 0), (.int .u8 0), (.int .u8 0), (.int .u8 0), (.int .u8 0), (.int .u8 0), (.int .u8 0)])⟩ := by kernel_rfl
@[push_cast] theorem t201 : ti Tryz.prog 201 = ⟨.func, 1, 8, some (.con .nilFunc)⟩ := by kernel_rfl
@[push_cast] theorem t202 : ti Tryz.prog 202 = ⟨(.struct [(0, 9), (1, 9), (2, 92)]), 3, 48, some (.agg [(.str []), (.str []), (.con .nilIface)])⟩ := by kernel_rfl
@[push_cast] theorem t203 : ti Tryz.prog 203 = ⟨(.struct [(0, 9), (1, 9), (2, 92)]), 3, 48, some (.agg [(.str []), (.str []), (.con .nilIface)])⟩ := by kernel_rfl
@[push_cast] theorem t204 : ti Tryz.prog 204 = ⟨.func, 1, 8, some (.con .nilFunc)⟩ := by kernel_rfl
@[push_cast] theorem t205 : ti Tryz.prog 205 = ⟨.func, 1, 8, some (.con .nilFunc)⟩ := by kernel_rfl
@[push_cast] theorem t206 : ti Tryz.prog 206 = ⟨.func, 1, 8, some (.con .nilFunc)⟩ := by kernel_rfl
@[push_cast] theorem t208 : ti Tryz.prog 208 = ⟨.func, 1, 8, some (.con .nilFunc)⟩ := by kernel_rfl
@[push_cast] theorem t209 : ti Tryz.prog 209 = ⟨.func, 1, 8, some (.con .nilFunc)⟩ := by kernel_rfl
@[push_cast] theorem t210 : ti Tryz.prog 210 = ⟨.func, 1, 8, some (.con .nilFunc)⟩ := by kernel_rfl
@[push_cast] theorem t211 : ti Tryz.prog 211 = ⟨(.ptr 213), 1, 8, some (.con (.pointer none))⟩ := by kernel_rfl
@[push_cast] theorem eq212 : EqOk Tryz.prog 212 = True := eq_true (eqOk_of (by kernel_rfl))
@[push_cast] theorem t212 : ti Tryz.prog 212 = ⟨(.struct [(0, 9)]), 1, 16, some (.agg [(.str [])])⟩ := by kernel_rfl
@[push_cast] theorem eq213 : EqOk Tryz.prog 213 = True := eq_true (eqOk_of (by kernel_rfl))
@[push_cast] theorem t213 : ti Tryz.prog 213 = ⟨(.struct [(0, 9)]), 1, 16, some (.agg [(.str [])])⟩ := by kernel_rfl
@[push_cast] theorem t214 : ti Tryz.prog 214 = ⟨(.arr 32 5), 32, 32, some (.agg [(.int .u8 0), (.int .u8 0), (.int .u8 0), (.int .u8 0), (.int .u8 0), (.int .u8 0), (.int .u8 0), (.int .u8 0), (.int .u8 0), (.int .u8 0), (.int .u8 0), (.int .u8 0), (.int .u8 0), (.int .u8 0), (.int .u8 0), (.int .u8 0), (.int .u8 0), (.int .u8 0), (.int .u8 0), (.int .u8 0), (.int .u8 0), (.int .u8 0), (.int .u8 0), (.int .u8 0), (.int .u8 0), (.int .u8 0), (.int .u8 0), (.int .u8 0), (.int .u8 0), (.int .u8 0), (.int .u8 0), (.int .u8 0)])⟩ := by kernel_rfl
@[push_cast] theorem t215 : ti Tryz.prog 215 = ⟨(.arr 64 5), 64, 64, some (.agg [(.int .u8 0), (.int .u8 0), (.int .u8 0), (.int .u8 0), (.int .u8 0), (.int .u8 0), (.int .u8 0), (.int .u8 0), (.int .u8 0), (.int .u8 0), (.int .u8 0), (.int .u8 0), (.int .u8 0), (.int .u8 0), (.int .u8 0), (.int .u8 0), (.int .u8 0), (.int .u8 0), (.int .u8 0), (.int .u8 0), (.int .u8 0), (.int .u8 0), (.int .u8 0), (.int .u8 0), (.int .u8 0), (.int .u8 0), (.int .u8 0), (.int .u8 0), (.int .u8 0), (.int .u8 0), (.int .u8 0), (.int .u8 0), (.int .u8 0), (.int .u8 0), (.int .u8 0), (.int .u8 0), (.int .u8 0), (.int .u8 0), (.int .u8 0), (.int .u8 0), (.int .u8 0), (.int .u8 0), (.int .u8 0), (.int .u8 0), (.int .u8 0), (.int .u8 0), (.int .u8 0), (.int .u8 0), (.int .u8 0), (.int .u8 0), (.int .u8 0), (.int .u8 0), (.int .u8 0), (.int .u8 0), (.int .u8 0), (.int .u8 0), (.int .u8 0), (.int .u8 0), (.int .u8 0), (.int .u8 0), (.int .u8 0), (.int .u8 0), (.int .u8 0), (.int .u8 0)])⟩ := by kernel_rfl
@[push_cast] theorem t216 : ti Tryz.prog 216 = ⟨(.struct [(0, 17), (1, 17), (2, 17), (3, 9)]), 4, 40, some (.agg [(.con (.pointer none)), (.con (.pointer none)), (.con (.pointer none)), (.str [])])⟩ := by kernel_rfl
@[push_cast] theorem t217 : ti Tryz.prog 217 = ⟨(.struct [(0, 17), (1, 17), (2, 17), (3, 9)]), 4, 40, some (.agg [(.con (.pointer none)), (.con (.pointer none)), (.con (.pointer none)), (.str [])])⟩ := by kernel_rfl
@[push_cast] theorem t218 : ti Tryz.prog 218 = ⟨(.arr 0 16), 0, 0, some (.agg [])⟩ := by kernel_rfl
@[push_cast] theorem t219 : ti Tryz.prog 219 = ⟨(.struct [(0, 218)]), 0, 0, some (.agg [])⟩ := by kernel_rfl
@[push_cast] theorem t220 : ti Tryz.prog 220 = ⟨(.struct [(0, 218)]), 0, 0, some (.agg [])⟩ := by kernel_rfl
@[push_cast] theorem t221 : ti Tryz.prog 221 = ⟨(.int .u8), 1, 1, some (.int .u8 0)⟩ := by kernel_rfl
@[push_cast] theorem t222 : ti Tryz.prog 222 = ⟨(.int .u8), 1, 1, some (.int .u8 0)⟩ := by kernel_rfl
@[push_cast] theorem t223 : ti Tryz.prog 223 = ⟨.func, 1, 8, some (.con .nilFunc)⟩ := by kernel_rfl
@[push_cast] theorem t224 : ti Tryz.prog 224 = ⟨(.int .i32), 1, 4, some (.int .i32 0)⟩ := by kernel_rfl
@[push_cast] theorem t225 : ti Tryz.prog 225 = ⟨(.int .i32), 1, 4, some (.int .i32 0)⟩ := by kernel_rfl
@[push_cast] theorem t226 : ti Tryz.prog 226 = ⟨(.struct [(0, 12), (1, 12), (2, 186), (3, 221), (4, 5), (5, 5), (6, 222), (7, 223), (8, 126), (9, 224), (10, 225)]), 11, 48, some (.agg [(.int .u64 0), (.int .u64 0), (.int .u32 0), (.int .u8 0), (.int .u8 0), (.int .u8 0), (.int .u8 0), (.con .nilFunc), (.con (.pointer none)), (.int .i32 0), (.int .i32 0)])⟩ := by kernel_rfl
@[push_cast] theorem t227 : ti Tryz.prog 227 = ⟨(.struct [(0, 12), (1, 12), (2, 186), (3, 221), (4, 5), (5, 5), (6, 222), (7, 223), (8, 126), (9, 224), (10, 225)]), 11, 48, some (.agg [(.int .u64 0), (.int .u64 0), (.int .u32 0), (.int .u8 0), (.int .u8 0), (.int .u8 0), (.int .u8 0), (.con .nilFunc), (.con (.pointer none)), (.int .i32 0), (.int .i32 0)])⟩ := by kernel_rfl
theorem n2 : Tryz.prog.funcs[2]? = some Tryz.f2 := by kernel_rfl
theorem e2 : entB Tryz.prog 2 = true := by kernel_rfl
theorem o2 : bodyOk (anL []) Tryz.f2 = true := by kernel_rfl
theorem n3 : Tryz.prog.funcs[3]? = some Tryz.f3 := by kernel_rfl
theorem e3 : entB Tryz.prog 3 = true := by kernel_rfl
theorem o3 : bodyOk (anL []) Tryz.f3 = true := by kernel_rfl
theorem w3 {ct : Ct} (ow : Nat → Bool) (ad : List Adj) {code : Code} (hb : Tryz.f3.body = some code) (hc : CtOk pg ct) {args : List V} {r : V} (ha : Nat.ble args.length 36 = true) (hr : r.noId = true) (h : exec ⟨pg, ct, ow, 36, anL []⟩ code ⟨argE args, hOf []⟩ (PostF pg.prog ad [.tmp 6] r [])) : PCall pg 3 args r := pcall_inF ad hc fol 3 n3 hb rfl e3 rfl (bodyOk_at o3 hb rfl) ha hr h
theorem n4 : Tryz.prog.funcs[4]? = some Tryz.f4 := by kernel_rfl
theorem e4 : entB Tryz.prog 4 = true := by kernel_rfl
theorem o4 : bodyOk (anL []) Tryz.f4 = true := by kernel_rfl
theorem w4 {ct : Ct} (ow : Nat → Bool) (ad : List Adj) {code : Code} (hb : Tryz.f4.body = some code) (hc : CtOk pg ct) {args : List V} {r : V} (ha : Nat.ble args.length 95 = true) (hr : r.noId = true) (h : exec ⟨pg, ct, ow, 95, anL []⟩ code ⟨argE args, hOf []⟩ (PostF pg.prog ad [.tmp 8] r [])) : PCall pg 4 args r := pcall_inF ad hc fol 4 n4 hb rfl e4 rfl (bodyOk_at o4 hb rfl) ha hr h
theorem n5 : Tryz.prog.funcs[5]? = some Tryz.f5 := by kernel_rfl
theorem e5 : entB Tryz.prog 5 = true := by kernel_rfl
theorem o5 : bodyOk (anL []) Tryz.f5 = true := by kernel_rfl
theorem n6 : Tryz.prog.funcs[6]? = some Tryz.f6 := by kernel_rfl
theorem e6 : entB Tryz.prog 6 = true := by kernel_rfl
theorem o6 : bodyOk (anL [(3, [0, 0, 3, 7, 15, 15, 63, 127, 255, 511, 1023, 511, 4095, 8191, 16383, 32767, 65535, 131071, 262143])]) Tryz.f6 = true := by kernel_rfl
theorem n7 : Tryz.prog.funcs[7]? = some Tryz.f7 := by kernel_rfl
theorem e7 : entB Tryz.prog 7 = true := by kernel_rfl
theorem o7 : bodyOk (anL []) Tryz.f7 = true := by kernel_rfl
theorem n8 : Tryz.prog.funcs[8]? = some Tryz.f8 := by kernel_rfl
theorem e8 : entB Tryz.prog 8 = true := by kernel_rfl
theorem o8 : bodyOk (anL []) Tryz.f8 = true := by kernel_rfl
theorem w8 {ct : Ct} (ow : Nat → Bool) (ad : List Adj) {code : Code} (hb : Tryz.f8.body = some code) (hc : CtOk pg ct) {args : List V} {r : V} (ha : Nat.ble args.length 64 = true) (hr : r.noId = true) (h : exec ⟨pg, ct, ow, 64, anL []⟩ code ⟨argE args, hOf []⟩ (PostF pg.prog ad [.tmp 6, .tmp 7] r [])) : PCall pg 8 args r := pcall_inF ad hc fol 8 n8 hb rfl e8 rfl (bodyOk_at o8 hb rfl) ha hr h
theorem n9 : Tryz.prog.funcs[9]? = some Tryz.f9 := by kernel_rfl
theorem e9 : entB Tryz.prog 9 = true := by kernel_rfl
theorem o9 : bodyOk (anL [(13, [0, 0, 3, 7, 0, 0, 63, 127]), (15, [0, 1, 3, 7, 7, 23, 63, 127, 255, 511, 7, 7, 3079, 7175, 15367, 31751, 65535, 131071, 262143, 262143, 786431, 2097151, 4194303, 8388607, 16777215, 262143, 262143, 100925439, 235143167, 503578623, 1040449535, 2147483647, 4294967295, 8589934591, 8589934591, 25769803775, 68719476735, 137438953471, 274877906943, 8589934591, 8589934591, 1657857376255, 3856880631807, 8254927142911, 17592186044415, 35184372088831, 70368744177663, 140737488355327]), (27, [0, 0, 0, 6, 14, 30, 62, 0, 0, 384, 896, 1920, 4094, 8191, 16383])]) Tryz.f9 = true := by kernel_rfl
theorem w9 {ct : Ct} (ow : Nat → Bool) (ad : List Adj) {code : Code} (hb : Tryz.f9.body = some code) (hc : CtOk pg ct) {args : List V} {r : V} (ha : Nat.ble args.length 137 = true) (hr : r.noId = true) (h : exec ⟨pg, ct, ow, 137, anL [(13, [0, 0, 3, 7, 0, 0, 63, 127]), (15, [0, 1, 3, 7, 7, 23, 63, 127, 255, 511, 7, 7, 3079, 7175, 15367, 31751, 65535, 131071, 262143, 262143, 786431, 2097151, 4194303, 8388607, 16777215, 262143, 262143, 100925439, 235143167, 503578623, 1040449535, 2147483647, 4294967295, 8589934591, 8589934591, 25769803775, 68719476735, 137438953471, 274877906943, 8589934591, 8589934591, 1657857376255, 3856880631807, 8254927142911, 17592186044415, 35184372088831, 70368744177663, 140737488355327]), (27, [0, 0, 0, 6, 14, 30, 62, 0, 0, 384, 896, 1920, 4094, 8191, 16383])]⟩ code ⟨argE args, hOf []⟩ (PostF pg.prog ad [.tmp 6, .tmp 7] r [])) : PCall pg 9 args r := pcall_inF ad hc fol 9 n9 hb rfl e9 rfl (bodyOk_at o9 hb rfl) ha hr h
theorem n10 : Tryz.prog.funcs[10]? = some Tryz.f10 := by kernel_rfl
theorem e10 : entB Tryz.prog 10 = true := by kernel_rfl
theorem o10 : bodyOk (anL []) Tryz.f10 = true := by kernel_rfl
theorem w10 {ct : Ct} (ow : Nat → Bool) (ad : List Adj) {code : Code} (hb : Tryz.f10.body = some code) (hc : CtOk pg ct) {args : List V} {r : V} (ha : Nat.ble args.length 13 = true) (hr : r.noId = true) (h : exec ⟨pg, ct, ow, 13, anL []⟩ code ⟨argE args, hOf []⟩ (PostF pg.prog ad [.tmp 0] r [])) : PCall pg 10 args r := pcall_inF ad hc fol 10 n10 hb rfl e10 rfl (bodyOk_at o10 hb rfl) ha hr h
theorem n11 : Tryz.prog.funcs[11]? = some Tryz.f11 := by kernel_rfl
theorem e11 : entB Tryz.prog 11 = true := by kernel_rfl
theorem o11 : bodyOk (anL [(14, [0, 0, 0, 4, 12, 0, 32, 124, 0, 0, 1020, 0, 4095, 0, 16383])]) Tryz.f11 = true := by kernel_rfl
theorem w11 {ct : Ct} (ow : Nat → Bool) (ad : List Adj) {code : Code} (hb : Tryz.f11.body = some code) (hc : CtOk pg ct) {args : List V} {r : V} (ha : Nat.ble args.length 137 = true) (hr : r.noId = true) (h : exec ⟨pg, ct, ow, 137, anL [(14, [0, 0, 0, 4, 12, 0, 32, 124, 0, 0, 1020, 0, 4095, 0, 16383])]⟩ code ⟨argE args, hOf []⟩ (PostF pg.prog ad [.cell 6 31, .tmp 7, .tmp 8] r [])) : PCall pg 11 args r := pcall_inF ad hc fol 11 n11 hb rfl e11 rfl (bodyOk_at o11 hb rfl) ha hr h
theorem n12 : Tryz.prog.funcs[12]? = some Tryz.f12 := by kernel_rfl
theorem e12 : entB Tryz.prog 12 = true := by kernel_rfl
theorem o12 : bodyOk (anL [(29, [0, 0, 3, 7, 15, 0, 0, 96, 224, 480, 1023])]) Tryz.f12 = true := by kernel_rfl
theorem w12 {ct : Ct} (ow : Nat → Bool) (ad : List Adj) {code : Code} (hb : Tryz.f12.body = some code) (hc : CtOk pg ct) {args : List V} {r : V} (ha : Nat.ble args.length 98 = true) (hr : r.noId = true) (h : exec ⟨pg, ct, ow, 98, anL [(29, [0, 0, 3, 7, 15, 0, 0, 96, 224, 480, 1023])]⟩ code ⟨argE args, hOf []⟩ (PostF pg.prog ad [.tmp 6, .tmp 7] r [])) : PCall pg 12 args r := pcall_inF ad hc fol 12 n12 hb rfl e12 rfl (bodyOk_at o12 hb rfl) ha hr h
theorem n21 : Tryz.prog.funcs[21]? = some Tryz.f21 := by kernel_rfl
theorem e21 : entB Tryz.prog 21 = true := by kernel_rfl
theorem o21 : bodyOk (anL []) Tryz.f21 = true := by kernel_rfl
theorem w21 {ct : Ct} (ow : Nat → Bool) (ad : List Adj) {code : Code} (hb : Tryz.f21.body = some code) (hc : CtOk pg ct) {args : List V} {r : V} (ha : Nat.ble args.length 27 = true) (hr : r.noId = true) (h : exec ⟨pg, ct, ow, 27, anL []⟩ code ⟨argE args, hOf []⟩ (PostF pg.prog ad [.tmp 2] r [])) : PCall pg 21 args r := pcall_inF ad hc fol 21 n21 hb rfl e21 rfl (bodyOk_at o21 hb rfl) ha hr h
theorem n22 : Tryz.prog.funcs[22]? = some Tryz.f22 := by kernel_rfl
theorem e22 : entB Tryz.prog 22 = true := by kernel_rfl
theorem o22 : bodyOk (anL []) Tryz.f22 = true := by kernel_rfl
theorem w22 {ct : Ct} (ow : Nat → Bool) (ad : List Adj) {code : Code} (hb : Tryz.f22.body = some code) (hc : CtOk pg ct) {args : List V} {r : V} (ha : Nat.ble args.length 73 = true) (hr : r.noId = true) (h : exec ⟨pg, ct, ow, 73, anL []⟩ code ⟨argE args, hOf []⟩ (PostF pg.prog ad [.tmp 2] r [])) : PCall pg 22 args r := pcall_inF ad hc fol 22 n22 hb rfl e22 rfl (bodyOk_at o22 hb rfl) ha hr h
theorem n23 : Tryz.prog.funcs[23]? = some Tryz.f23 := by kernel_rfl
theorem e23 : entB Tryz.prog 23 = true := by kernel_rfl
theorem o23 : bodyOk (anL []) Tryz.f23 = true := by kernel_rfl
theorem w23 {ct : Ct} (ow : Nat → Bool) (ad : List Adj) {code : Code} (hb : Tryz.f23.body = some code) (hc : CtOk pg ct) {args : List V} {r : V} (ha : Nat.ble args.length 9 = true) (hr : r.noId = true) (h : exec ⟨pg, ct, ow, 9, anL []⟩ code ⟨argE args, hOf []⟩ (PostF pg.prog ad [.tmp 2] r [])) : PCall pg 23 args r := pcall_inF ad hc fol 23 n23 hb rfl e23 rfl (bodyOk_at o23 hb rfl) ha hr h
theorem n24 : Tryz.prog.funcs[24]? = some Tryz.f24 := by kernel_rfl
theorem e24 : entB Tryz.prog 24 = true := by kernel_rfl
theorem o24 : bodyOk (anL [(1, [0, 1, 3, 0, 8, 7, 63])]) Tryz.f24 = true := by kernel_rfl
theorem w24 {ct : Ct} (ow : Nat → Bool) (ad : List Adj) {code : Code} (hb : Tryz.f24.body = some code) (hc : CtOk pg ct) {args : List V} {r : V} (ha : Nat.ble args.length 75 = true) (hr : r.noId = true) (h : exec ⟨pg, ct, ow, 75, anL [(1, [0, 1, 3, 0, 8, 7, 63])]⟩ code ⟨argE args, hOf []⟩ (PostF pg.prog ad [.tmp 6] r [])) : PCall pg 24 args r := pcall_inF ad hc fol 24 n24 hb rfl e24 rfl (bodyOk_at o24 hb rfl) ha hr h
theorem n25 : Tryz.prog.funcs[25]? = some Tryz.f25 := by kernel_rfl
theorem e25 : entB Tryz.prog 25 = true := by kernel_rfl
theorem o25 : bodyOk (anL []) Tryz.f25 = true := by kernel_rfl
theorem fw25 {ct : Ct} (ow : Nat → Bool) (ad : List Adj) {code : Code} (hb : Tryz.f25.body = some code) (hc : CtOk pg ct) {args : List V} {hl hl' : HL} {r : V} (ha : Nat.ble args.length 9 = true) (hlo : ∀ p ∈ hl, 9000 ≤ p.1) (hin : hlIn (idsIn hl) hl') (hr : V.menIn (idsIn hl) r = true) (h : exec ⟨pg, ct, ow, 9, anL []⟩ code ⟨argE args, hOf hl⟩ (PostF pg.prog ad [] r hl')) : FCall pg 25 args hl r hl' := fcall_inF ad hc fol 25 n25 hb rfl e25 rfl (bodyOk_at o25 hb rfl) ha hlo hin hr h
theorem n26 : Tryz.prog.funcs[26]? = some Tryz.f26 := by kernel_rfl
theorem e26 : entB Tryz.prog 26 = true := by kernel_rfl
theorem o26 : bodyOk (anL [(1, [0, 1, 3, 0, 8, 24, 63, 0, 128, 0, 512, 2047, 4095, 8191, 16383])]) Tryz.f26 = true := by kernel_rfl
theorem w26 {ct : Ct} (ow : Nat → Bool) (ad : List Adj) {code : Code} (hb : Tryz.f26.body = some code) (hc : CtOk pg ct) {args : List V} {r : V} (ha : Nat.ble args.length 19 = true) (hr : r.noId = true) (h : exec ⟨pg, ct, ow, 19, anL [(1, [0, 1, 3, 0, 8, 24, 63, 0, 128, 0, 512, 2047, 4095, 8191, 16383])]⟩ code ⟨argE args, hOf []⟩ (PostF pg.prog ad [.tmp 4] r [])) : PCall pg 26 args r := pcall_inF ad hc fol 26 n26 hb rfl e26 rfl (bodyOk_at o26 hb rfl) ha hr h
theorem n27 : Tryz.prog.funcs[27]? = some Tryz.f27 := by kernel_rfl
theorem e27 : entB Tryz.prog 27 = true := by kernel_rfl
theorem o27 : bodyOk (anL []) Tryz.f27 = true := by kernel_rfl
theorem w27 {ct : Ct} (ow : Nat → Bool) (ad : List Adj) {code : Code} (hb : Tryz.f27.body = some code) (hc : CtOk pg ct) {args : List V} {r : V} (ha : Nat.ble args.length 18 = true) (hr : r.noId = true) (h : exec ⟨pg, ct, ow, 18, anL []⟩ code ⟨argE args, hOf []⟩ (PostF pg.prog ad [.tmp 2] r [])) : PCall pg 27 args r := pcall_inF ad hc fol 27 n27 hb rfl e27 rfl (bodyOk_at o27 hb rfl) ha hr h
theorem n28 : Tryz.prog.funcs[28]? = some Tryz.f28 := by kernel_rfl
theorem e28 : entB Tryz.prog 28 = true := by kernel_rfl
theorem o28 : bodyOk (anL []) Tryz.f28 = true := by kernel_rfl
theorem w28 {ct : Ct} (ow : Nat → Bool) (ad : List Adj) {code : Code} (hb : Tryz.f28.body = some code) (hc : CtOk pg ct) {args : List V} {r : V} (ha : Nat.ble args.length 20 = true) (hr : r.noId = true) (h : exec ⟨pg, ct, ow, 20, anL []⟩ code ⟨argE args, hOf []⟩ (PostF pg.prog ad [.tmp 4] r [])) : PCall pg 28 args r := pcall_inF ad hc fol 28 n28 hb rfl e28 rfl (bodyOk_at o28 hb rfl) ha hr h
theorem n30 : Tryz.prog.funcs[30]? = some Tryz.f30 := by kernel_rfl
theorem e30 : entB Tryz.prog 30 = true := by kernel_rfl
theorem o30 : bodyOk (anL [(12, [0, 0, 3, 7, 0, 0, 48, 112, 255])]) Tryz.f30 = true := by kernel_rfl
theorem w30 {ct : Ct} (ow : Nat → Bool) (ad : List Adj) {code : Code} (hb : Tryz.f30.body = some code) (hc : CtOk pg ct) {args : List V} {r : V} (ha : Nat.ble args.length 37 = true) (hr : r.noId = true) (h : exec ⟨pg, ct, ow, 37, anL [(12, [0, 0, 3, 7, 0, 0, 48, 112, 255])]⟩ code ⟨argE args, hOf []⟩ (PostF pg.prog ad [.tmp 2] r [])) : PCall pg 30 args r := pcall_inF ad hc fol 30 n30 hb rfl e30 rfl (bodyOk_at o30 hb rfl) ha hr h
theorem n31 : Tryz.prog.funcs[31]? = some Tryz.f31 := by kernel_rfl
theorem e31 : entB Tryz.prog 31 = true := by kernel_rfl
theorem o31 : bodyOk (anL []) Tryz.f31 = true := by kernel_rfl
theorem w31 {ct : Ct} (ow : Nat → Bool) (ad : List Adj) {code : Code} (hb : Tryz.f31.body = some code) (hc : CtOk pg ct) {args : List V} {r : V} (ha : Nat.ble args.length 64 = true) (hr : r.noId = true) (h : exec ⟨pg, ct, ow, 64, anL []⟩ code ⟨argE args, hOf []⟩ (PostF pg.prog ad [.tmp 2] r [])) : PCall pg 31 args r := pcall_inF ad hc fol 31 n31 hb rfl e31 rfl (bodyOk_at o31 hb rfl) ha hr h
theorem n32 : Tryz.prog.funcs[32]? = some Tryz.f32 := by kernel_rfl
theorem e32 : entB Tryz.prog 32 = true := by kernel_rfl
theorem o32 : bodyOk (anL []) Tryz.f32 = true := by kernel_rfl
theorem w32 {ct : Ct} (ow : Nat → Bool) (ad : List Adj) {code : Code} (hb : Tryz.f32.body = some code) (hc : CtOk pg ct) {args : List V} {r : V} (ha : Nat.ble args.length 15 = true) (hr : r.noId = true) (h : exec ⟨pg, ct, ow, 15, anL []⟩ code ⟨argE args, hOf []⟩ (PostF pg.prog ad [.tmp 6] r [])) : PCall pg 32 args r := pcall_inF ad hc fol 32 n32 hb rfl e32 rfl (bodyOk_at o32 hb rfl) ha hr h
theorem n33 : Tryz.prog.funcs[33]? = some Tryz.f33 := by kernel_rfl
theorem e33 : entB Tryz.prog 33 = true := by kernel_rfl
theorem o33 : bodyOk (anL [(1, [0, 1, 3, 0, 8, 7, 63])]) Tryz.f33 = true := by kernel_rfl
theorem w33 {ct : Ct} (ow : Nat → Bool) (ad : List Adj) {code : Code} (hb : Tryz.f33.body = some code) (hc : CtOk pg ct) {args : List V} {r : V} (ha : Nat.ble args.length 72 = true) (hr : r.noId = true) (h : exec ⟨pg, ct, ow, 72, anL [(1, [0, 1, 3, 0, 8, 7, 63])]⟩ code ⟨argE args, hOf []⟩ (PostF pg.prog ad [.tmp 6] r [])) : PCall pg 33 args r := pcall_inF ad hc fol 33 n33 hb rfl e33 rfl (bodyOk_at o33 hb rfl) ha hr h
theorem n34 : Tryz.prog.funcs[34]? = some Tryz.f34 := by kernel_rfl
theorem e34 : entB Tryz.prog 34 = true := by kernel_rfl
theorem o34 : bodyOk (anL []) Tryz.f34 = true := by kernel_rfl
theorem w34 {ct : Ct} (ow : Nat → Bool) (ad : List Adj) {code : Code} (hb : Tryz.f34.body = some code) (hc : CtOk pg ct) {args : List V} {r : V} (ha : Nat.ble args.length 9 = true) (hr : r.noId = true) (h : exec ⟨pg, ct, ow, 9, anL []⟩ code ⟨argE args, hOf []⟩ (PostF pg.prog ad [.tmp 2, .tmp 3] r [])) : PCall pg 34 args r := pcall_inF ad hc fol 34 n34 hb rfl e34 rfl (bodyOk_at o34 hb rfl) ha hr h
theorem n35 : Tryz.prog.funcs[35]? = some Tryz.f35 := by kernel_rfl
theorem e35 : entB Tryz.prog 35 = true := by kernel_rfl
theorem o35 : bodyOk (anL []) Tryz.f35 = true := by kernel_rfl
theorem w35 {ct : Ct} (ow : Nat → Bool) (ad : List Adj) {code : Code} (hb : Tryz.f35.body = some code) (hc : CtOk pg ct) {args : List V} {r : V} (ha : Nat.ble args.length 23 = true) (hr : r.noId = true) (h : exec ⟨pg, ct, ow, 23, anL []⟩ code ⟨argE args, hOf []⟩ (PostF pg.prog ad [.tmp 4] r [])) : PCall pg 35 args r := pcall_inF ad hc fol 35 n35 hb rfl e35 rfl (bodyOk_at o35 hb rfl) ha hr h
theorem n37 : Tryz.prog.funcs[37]? = some Tryz.f37 := by kernel_rfl
theorem e37 : entB Tryz.prog 37 = true := by kernel_rfl
theorem o37 : bodyOk (anL []) Tryz.f37 = true := by kernel_rfl
theorem w37 {ct : Ct} (ow : Nat → Bool) (ad : List Adj) {code : Code} (hb : Tryz.f37.body = some code) (hc : CtOk pg ct) {args : List V} {r : V} (ha : Nat.ble args.length 50 = true) (hr : r.noId = true) (h : exec ⟨pg, ct, ow, 50, anL []⟩ code ⟨argE args, hOf []⟩ (PostF pg.prog ad [.tmp 2] r [])) : PCall pg 37 args r := pcall_inF ad hc fol 37 n37 hb rfl e37 rfl (bodyOk_at o37 hb rfl) ha hr h
theorem n38 : Tryz.prog.funcs[38]? = some Tryz.f38 := by kernel_rfl
theorem e38 : entB Tryz.prog 38 = true := by kernel_rfl
theorem o38 : bodyOk (anL []) Tryz.f38 = true := by kernel_rfl
theorem w38 {ct : Ct} (ow : Nat → Bool) (ad : List Adj) {code : Code} (hb : Tryz.f38.body = some code) (hc : CtOk pg ct) {args : List V} {r : V} (ha : Nat.ble args.length 35 = true) (hr : r.noId = true) (h : exec ⟨pg, ct, ow, 35, anL []⟩ code ⟨argE args, hOf []⟩ (PostF pg.prog ad [.tmp 2] r [])) : PCall pg 38 args r := pcall_inF ad hc fol 38 n38 hb rfl e38 rfl (bodyOk_at o38 hb rfl) ha hr h
theorem n39 : Tryz.prog.funcs[39]? = some Tryz.f39 := by kernel_rfl
theorem e39 : entB Tryz.prog 39 = true := by kernel_rfl
theorem o39 : bodyOk (anL []) Tryz.f39 = true := by kernel_rfl
theorem nw39 {ct : Ct} (ow : Nat → Bool) (ad : List Adj) {code : Code} (hb : Tryz.f39.body = some code) (hc : CtOk pg ct) {args : List V} {r : V} {nb : Blk} (ha : Nat.ble args.length 28 = true) (hr : r.newOk = true) (hnb : noIdB nb) (h : exec ⟨pg, ct, ow, 28, anL []⟩ code ⟨argE args, hOf []⟩ (PostF pg.prog ad [.tmp 2] r [(8999, nb)])) : NCall pg 39 args r nb := ncall_inF ad hc fol 39 n39 hb rfl e39 rfl (bodyOk_at o39 hb rfl) ha hr hnb h
theorem n40 : Tryz.prog.funcs[40]? = some Tryz.f40 := by kernel_rfl
theorem e40 : entB Tryz.prog 40 = true := by kernel_rfl
theorem o40 : bodyOk (anL []) Tryz.f40 = true := by kernel_rfl
theorem w40 {ct : Ct} (ow : Nat → Bool) (ad : List Adj) {code : Code} (hb : Tryz.f40.body = some code) (hc : CtOk pg ct) {args : List V} {r : V} (ha : Nat.ble args.length 30 = true) (hr : r.noId = true) (h : exec ⟨pg, ct, ow, 30, anL []⟩ code ⟨argE args, hOf []⟩ (PostF pg.prog ad [.tmp 2] r [])) : PCall pg 40 args r := pcall_inF ad hc fol 40 n40 hb rfl e40 rfl (bodyOk_at o40 hb rfl) ha hr h
theorem n41 : Tryz.prog.funcs[41]? = some Tryz.f41 := by kernel_rfl
theorem e41 : entB Tryz.prog 41 = true := by kernel_rfl
theorem o41 : bodyOk (anL []) Tryz.f41 = true := by kernel_rfl
theorem w41 {ct : Ct} (ow : Nat → Bool) (ad : List Adj) {code : Code} (hb : Tryz.f41.body = some code) (hc : CtOk pg ct) {args : List V} {r : V} (ha : Nat.ble args.length 12 = true) (hr : r.noId = true) (h : exec ⟨pg, ct, ow, 12, anL []⟩ code ⟨argE args, hOf []⟩ (PostF pg.prog ad [.tmp 2] r [])) : PCall pg 41 args r := pcall_inF ad hc fol 41 n41 hb rfl e41 rfl (bodyOk_at o41 hb rfl) ha hr h
theorem n42 : Tryz.prog.funcs[42]? = some Tryz.f42 := by kernel_rfl
theorem e42 : entB Tryz.prog 42 = true := by kernel_rfl
theorem o42 : bodyOk (anL []) Tryz.f42 = true := by kernel_rfl
theorem fw42 {ct : Ct} (ow : Nat → Bool) (ad : List Adj) {code : Code} (hb : Tryz.f42.body = some code) (hc : CtOk pg ct) {args : List V} {hl hl' : HL} {r : V} (ha : Nat.ble args.length 51 = true) (hlo : ∀ p ∈ hl, 9000 ≤ p.1) (hin : hlIn (idsIn hl) hl') (hr : V.menIn (idsIn hl) r = true) (h : exec ⟨pg, ct, ow, 51, anL []⟩ code ⟨argE args, hOf hl⟩ (PostF pg.prog ad [.tmp 4] r hl')) : FCall pg 42 args hl r hl' := fcall_inF ad hc fol 42 n42 hb rfl e42 rfl (bodyOk_at o42 hb rfl) ha hlo hin hr h
theorem n43 : Tryz.prog.funcs[43]? = some Tryz.f43 := by kernel_rfl
theorem e43 : entB Tryz.prog 43 = true := by kernel_rfl
theorem o43 : bodyOk (anL []) Tryz.f43 = true := by kernel_rfl
theorem w43 {ct : Ct} (ow : Nat → Bool) (ad : List Adj) {code : Code} (hb : Tryz.f43.body = some code) (hc : CtOk pg ct) {args : List V} {r : V} (ha : Nat.ble args.length 8 = true) (hr : r.noId = true) (h : exec ⟨pg, ct, ow, 8, anL []⟩ code ⟨argE args, hOf []⟩ (PostF pg.prog ad [.tmp 4] r [])) : PCall pg 43 args r := pcall_inF ad hc fol 43 n43 hb rfl e43 rfl (bodyOk_at o43 hb rfl) ha hr h
theorem n44 : Tryz.prog.funcs[44]? = some Tryz.f44 := by kernel_rfl
theorem e44 : entB Tryz.prog 44 = true := by kernel_rfl
theorem o44 : bodyOk (anL []) Tryz.f44 = true := by kernel_rfl
theorem w44 {ct : Ct} (ow : Nat → Bool) (ad : List Adj) {code : Code} (hb : Tryz.f44.body = some code) (hc : CtOk pg ct) {args : List V} {r : V} (ha : Nat.ble args.length 11 = true) (hr : r.noId = true) (h : exec ⟨pg, ct, ow, 11, anL []⟩ code ⟨argE args, hOf []⟩ (PostF pg.prog ad [.tmp 2] r [])) : PCall pg 44 args r := pcall_inF ad hc fol 44 n44 hb rfl e44 rfl (bodyOk_at o44 hb rfl) ha hr h
theorem n45 : Tryz.prog.funcs[45]? = some Tryz.f45 := by kernel_rfl
theorem e45 : entB Tryz.prog 45 = true := by kernel_rfl
theorem o45 : bodyOk (anL []) Tryz.f45 = true := by kernel_rfl
theorem w45 {ct : Ct} (ow : Nat → Bool) (ad : List Adj) {code : Code} (hb : Tryz.f45.body = some code) (hc : CtOk pg ct) {args : List V} {r : V} (ha : Nat.ble args.length 14 = true) (hr : r.noId = true) (h : exec ⟨pg, ct, ow, 14, anL []⟩ code ⟨argE args, hOf []⟩ (PostF pg.prog ad [.tmp 4] r [])) : PCall pg 45 args r := pcall_inF ad hc fol 45 n45 hb rfl e45 rfl (bodyOk_at o45 hb rfl) ha hr h
theorem n47 : Tryz.prog.funcs[47]? = some Tryz.f47 := by kernel_rfl
theorem e47 : entB Tryz.prog 47 = true := by kernel_rfl
theorem o47 : bodyOk (anL []) Tryz.f47 = true := by kernel_rfl
theorem w47 {ct : Ct} (ow : Nat → Bool) (ad : List Adj) {code : Code} (hb : Tryz.f47.body = some code) (hc : CtOk pg ct) {args : List V} {r : V} (ha : Nat.ble args.length 9 = true) (hr : r.noId = true) (h : exec ⟨pg, ct, ow, 9, anL []⟩ code ⟨argE args, hOf []⟩ (PostF pg.prog ad [.tmp 2] r [])) : PCall pg 47 args r := pcall_inF ad hc fol 47 n47 hb rfl e47 rfl (bodyOk_at o47 hb rfl) ha hr h
theorem n48 : Tryz.prog.funcs[48]? = some Tryz.f48 := by kernel_rfl
theorem e48 : entB Tryz.prog 48 = true := by kernel_rfl
theorem o48 : bodyOk (anL []) Tryz.f48 = true := by kernel_rfl
theorem w48 {ct : Ct} (ow : Nat → Bool) (ad : List Adj) {code : Code} (hb : Tryz.f48.body = some code) (hc : CtOk pg ct) {args : List V} {r : V} (ha : Nat.ble args.length 44 = true) (hr : r.noId = true) (h : exec ⟨pg, ct, ow, 44, anL []⟩ code ⟨argE args, hOf []⟩ (PostF pg.prog ad [.tmp 2] r [])) : PCall pg 48 args r := pcall_inF ad hc fol 48 n48 hb rfl e48 rfl (bodyOk_at o48 hb rfl) ha hr h
theorem n49 : Tryz.prog.funcs[49]? = some Tryz.f49 := by kernel_rfl
theorem e49 : entB Tryz.prog 49 = true := by kernel_rfl
theorem o49 : bodyOk (anL []) Tryz.f49 = true := by kernel_rfl
theorem w49 {ct : Ct} (ow : Nat → Bool) (ad : List Adj) {code : Code} (hb : Tryz.f49.body = some code) (hc : CtOk pg ct) {args : List V} {r : V} (ha : Nat.ble args.length 14 = true) (hr : r.noId = true) (h : exec ⟨pg, ct, ow, 14, anL []⟩ code ⟨argE args, hOf []⟩ (PostF pg.prog ad [.tmp 4] r [])) : PCall pg 49 args r := pcall_inF ad hc fol 49 n49 hb rfl e49 rfl (bodyOk_at o49 hb rfl) ha hr h
theorem n50 : Tryz.prog.funcs[50]? = some Tryz.f50 := by kernel_rfl
theorem e50 : entB Tryz.prog 50 = true := by kernel_rfl
theorem o50 : bodyOk (anL []) Tryz.f50 = true := by kernel_rfl
theorem w50 {ct : Ct} (ow : Nat → Bool) (ad : List Adj) {code : Code} (hb : Tryz.f50.body = some code) (hc : CtOk pg ct) {args : List V} {r : V} (ha : Nat.ble args.length 24 = true) (hr : r.noId = true) (h : exec ⟨pg, ct, ow, 24, anL []⟩ code ⟨argE args, hOf []⟩ (PostF pg.prog ad [.tmp 4] r [])) : PCall pg 50 args r := pcall_inF ad hc fol 50 n50 hb rfl e50 rfl (bodyOk_at o50 hb rfl) ha hr h
theorem n58 : Tryz.prog.funcs[58]? = some Tryz.f58 := by kernel_rfl
theorem e58 : entB Tryz.prog 58 = true := by kernel_rfl
theorem o58 : bodyOk (anL [(9, [0, 0, 2, 6, 14, 1, 63, 127])]) Tryz.f58 = true := by kernel_rfl
theorem w58 {ct : Ct} (ow : Nat → Bool) (ad : List Adj) {code : Code} (hb : Tryz.f58.body = some code) (hc : CtOk pg ct) {args : List V} {r : V} (ha : Nat.ble args.length 49 = true) (hr : r.noId = true) (h : exec ⟨pg, ct, ow, 49, anL [(9, [0, 0, 2, 6, 14, 1, 63, 127])]⟩ code ⟨argE args, hOf []⟩ (PostF pg.prog ad [.cell 2 24, .tmp 3, .tmp 4] r [])) : PCall pg 58 args r := pcall_inF ad hc fol 58 n58 hb rfl e58 rfl (bodyOk_at o58 hb rfl) ha hr h
theorem n71 : Tryz.prog.funcs[71]? = some Tryz.f71 := by kernel_rfl
theorem e71 : entB Tryz.prog 71 = true := by kernel_rfl
theorem o71 : bodyOk (anL []) Tryz.f71 = true := by kernel_rfl
theorem fw71 {ct : Ct} (ow : Nat → Bool) (ad : List Adj) {code : Code} (hb : Tryz.f71.body = some code) (hc : CtOk pg ct) {args : List V} {hl hl' : HL} {r : V} (ha : Nat.ble args.length 9 = true) (hlo : ∀ p ∈ hl, 9000 ≤ p.1) (hin : hlIn (idsIn hl) hl') (hr : V.menIn (idsIn hl) r = true) (h : exec ⟨pg, ct, ow, 9, anL []⟩ code ⟨argE args, hOf hl⟩ (PostF pg.prog ad [.tmp 4] r hl')) : FCall pg 71 args hl r hl' := fcall_inF ad hc fol 71 n71 hb rfl e71 rfl (bodyOk_at o71 hb rfl) ha hlo hin hr h
theorem n72 : Tryz.prog.funcs[72]? = some Tryz.f72 := by kernel_rfl
theorem e72 : entB Tryz.prog 72 = true := by kernel_rfl
theorem o72 : bodyOk (anL []) Tryz.f72 = true := by kernel_rfl
theorem fw72 {ct : Ct} (ow : Nat → Bool) (ad : List Adj) {code : Code} (hb : Tryz.f72.body = some code) (hc : CtOk pg ct) {args : List V} {hl hl' : HL} {r : V} (ha : Nat.ble args.length 7 = true) (hlo : ∀ p ∈ hl, 9000 ≤ p.1) (hin : hlIn (idsIn hl) hl') (hr : V.menIn (idsIn hl) r = true) (h : exec ⟨pg, ct, ow, 7, anL []⟩ code ⟨argE args, hOf hl⟩ (PostF pg.prog ad [.tmp 3] r hl')) : FCall pg 72 args hl r hl' := fcall_inF ad hc fol 72 n72 hb rfl e72 rfl (bodyOk_at o72 hb rfl) ha hlo hin hr h
theorem n73 : Tryz.prog.funcs[73]? = some Tryz.f73 := by kernel_rfl
theorem e73 : entB Tryz.prog 73 = true := by kernel_rfl
theorem o73 : bodyOk (anL []) Tryz.f73 = true := by kernel_rfl
theorem w73 {ct : Ct} (ow : Nat → Bool) (ad : List Adj) {code : Code} (hb : Tryz.f73.body = some code) (hc : CtOk pg ct) {args : List V} {r : V} (ha : Nat.ble args.length 19 = true) (hr : r.noId = true) (h : exec ⟨pg, ct, ow, 19, anL []⟩ code ⟨argE args, hOf []⟩ (PostF pg.prog ad [.tmp 2] r [])) : PCall pg 73 args r := pcall_inF ad hc fol 73 n73 hb rfl e73 rfl (bodyOk_at o73 hb rfl) ha hr h
theorem n74 : Tryz.prog.funcs[74]? = some Tryz.f74 := by kernel_rfl
theorem e74 : entB Tryz.prog 74 = true := by kernel_rfl
theorem o74 : bodyOk (anL []) Tryz.f74 = true := by kernel_rfl
theorem w74 {ct : Ct} (ow : Nat → Bool) (ad : List Adj) {code : Code} (hb : Tryz.f74.body = some code) (hc : CtOk pg ct) {args : List V} {r : V} (ha : Nat.ble args.length 35 = true) (hr : r.noId = true) (h : exec ⟨pg, ct, ow, 35, anL []⟩ code ⟨argE args, hOf []⟩ (PostF pg.prog ad [.tmp 2] r [])) : PCall pg 74 args r := pcall_inF ad hc fol 74 n74 hb rfl e74 rfl (bodyOk_at o74 hb rfl) ha hr h
theorem n75 : Tryz.prog.funcs[75]? = some Tryz.f75 := by kernel_rfl
theorem e75 : entB Tryz.prog 75 = true := by kernel_rfl
theorem o75 : bodyOk (anL []) Tryz.f75 = true := by kernel_rfl
theorem w75 {ct : Ct} (ow : Nat → Bool) (ad : List Adj) {code : Code} (hb : Tryz.f75.body = some code) (hc : CtOk pg ct) {args : List V} {r : V} (ha : Nat.ble args.length 20 = true) (hr : r.noId = true) (h : exec ⟨pg, ct, ow, 20, anL []⟩ code ⟨argE args, hOf []⟩ (PostF pg.prog ad [.tmp 4] r [])) : PCall pg 75 args r := pcall_inF ad hc fol 75 n75 hb rfl e75 rfl (bodyOk_at o75 hb rfl) ha hr h
theorem n76 : Tryz.prog.funcs[76]? = some Tryz.f76 := by kernel_rfl
theorem e76 : entB Tryz.prog 76 = true := by kernel_rfl
theorem o76 : bodyOk (anL []) Tryz.f76 = true := by kernel_rfl
theorem w76 {ct : Ct} (ow : Nat → Bool) (ad : List Adj) {code : Code} (hb : Tryz.f76.body = some code) (hc : CtOk pg ct) {args : List V} {r : V} (ha : Nat.ble args.length 22 = true) (hr : r.noId = true) (h : exec ⟨pg, ct, ow, 22, anL []⟩ code ⟨argE args, hOf []⟩ (PostF pg.prog ad [.tmp 2] r [])) : PCall pg 76 args r := pcall_inF ad hc fol 76 n76 hb rfl e76 rfl (bodyOk_at o76 hb rfl) ha hr h
theorem n77 : Tryz.prog.funcs[77]? = some Tryz.f77 := by kernel_rfl
theorem e77 : entB Tryz.prog 77 = true := by kernel_rfl
theorem o77 : bodyOk (anL []) Tryz.f77 = true := by kernel_rfl
theorem w77 {ct : Ct} (ow : Nat → Bool) (ad : List Adj) {code : Code} (hb : Tryz.f77.body = some code) (hc : CtOk pg ct) {args : List V} {r : V} (ha : Nat.ble args.length 11 = true) (hr : r.noId = true) (h : exec ⟨pg, ct, ow, 11, anL []⟩ code ⟨argE args, hOf []⟩ (PostF pg.prog ad [.tmp 4, .tmp 5] r [])) : PCall pg 77 args r := pcall_inF ad hc fol 77 n77 hb rfl e77 rfl (bodyOk_at o77 hb rfl) ha hr h
theorem n78 : Tryz.prog.funcs[78]? = some Tryz.f78 := by kernel_rfl
theorem e78 : entB Tryz.prog 78 = true := by kernel_rfl
theorem o78 : bodyOk (anL []) Tryz.f78 = true := by kernel_rfl
theorem w78 {ct : Ct} (ow : Nat → Bool) (ad : List Adj) {code : Code} (hb : Tryz.f78.body = some code) (hc : CtOk pg ct) {args : List V} {r : V} (ha : Nat.ble args.length 8 = true) (hr : r.noId = true) (h : exec ⟨pg, ct, ow, 8, anL []⟩ code ⟨argE args, hOf []⟩ (PostF pg.prog ad [.tmp 4] r [])) : PCall pg 78 args r := pcall_inF ad hc fol 78 n78 hb rfl e78 rfl (bodyOk_at o78 hb rfl) ha hr h
theorem n79 : Tryz.prog.funcs[79]? = some Tryz.f79 := by kernel_rfl
theorem e79 : entB Tryz.prog 79 = true := by kernel_rfl
theorem o79 : bodyOk (anL []) Tryz.f79 = true := by kernel_rfl
theorem fw79 {ct : Ct} (ow : Nat → Bool) (ad : List Adj) {code : Code} (hb : Tryz.f79.body = some code) (hc : CtOk pg ct) {args : List V} {hl hl' : HL} {r : V} (ha : Nat.ble args.length 63 = true) (hlo : ∀ p ∈ hl, 9000 ≤ p.1) (hin : hlIn (idsIn hl) hl') (hr : V.menIn (idsIn hl) r = true) (h : exec ⟨pg, ct, ow, 63, anL []⟩ code ⟨argE args, hOf hl⟩ (PostF pg.prog ad [] r hl')) : FCall pg 79 args hl r hl' := fcall_inF ad hc fol 79 n79 hb rfl e79 rfl (bodyOk_at o79 hb rfl) ha hlo hin hr h
theorem n80 : Tryz.prog.funcs[80]? = some Tryz.f80 := by kernel_rfl
theorem e80 : entB Tryz.prog 80 = true := by kernel_rfl
theorem o80 : bodyOk (anL []) Tryz.f80 = true := by kernel_rfl
theorem w80 {ct : Ct} (ow : Nat → Bool) (ad : List Adj) {code : Code} (hb : Tryz.f80.body = some code) (hc : CtOk pg ct) {args : List V} {r : V} (ha : Nat.ble args.length 6 = true) (hr : r.noId = true) (h : exec ⟨pg, ct, ow, 6, anL []⟩ code ⟨argE args, hOf []⟩ (PostF pg.prog ad [.tmp 2] r [])) : PCall pg 80 args r := pcall_inF ad hc fol 80 n80 hb rfl e80 rfl (bodyOk_at o80 hb rfl) ha hr h
theorem n82 : Tryz.prog.funcs[82]? = some Tryz.f82 := by kernel_rfl
theorem e82 : entB Tryz.prog 82 = true := by kernel_rfl
theorem o82 : bodyOk (anL [(5, [0, 1, 3, 7, 15, 31, 63, 127, 31, 287, 1023, 2047])]) Tryz.f82 = true := by kernel_rfl
theorem w82 {ct : Ct} (ow : Nat → Bool) (ad : List Adj) {code : Code} (hb : Tryz.f82.body = some code) (hc : CtOk pg ct) {args : List V} {r : V} (ha : Nat.ble args.length 37 = true) (hr : r.noId = true) (h : exec ⟨pg, ct, ow, 37, anL [(5, [0, 1, 3, 7, 15, 31, 63, 127, 31, 287, 1023, 2047])]⟩ code ⟨argE args, hOf []⟩ (PostF pg.prog ad [.tmp 2] r [])) : PCall pg 82 args r := pcall_inF ad hc fol 82 n82 hb rfl e82 rfl (bodyOk_at o82 hb rfl) ha hr h
theorem n83 : Tryz.prog.funcs[83]? = some Tryz.f83 := by kernel_rfl
theorem e83 : entB Tryz.prog 83 = true := by kernel_rfl
theorem o83 : bodyOk (anL []) Tryz.f83 = true := by kernel_rfl
theorem w83 {ct : Ct} (ow : Nat → Bool) (ad : List Adj) {code : Code} (hb : Tryz.f83.body = some code) (hc : CtOk pg ct) {args : List V} {r : V} (ha : Nat.ble args.length 24 = true) (hr : r.noId = true) (h : exec ⟨pg, ct, ow, 24, anL []⟩ code ⟨argE args, hOf []⟩ (PostF pg.prog ad [.tmp 4] r [])) : PCall pg 83 args r := pcall_inF ad hc fol 83 n83 hb rfl e83 rfl (bodyOk_at o83 hb rfl) ha hr h
theorem n84 : Tryz.prog.funcs[84]? = some Tryz.f84 := by kernel_rfl
theorem e84 : entB Tryz.prog 84 = true := by kernel_rfl
theorem o84 : bodyOk (anL []) Tryz.f84 = true := by kernel_rfl
theorem w84 {ct : Ct} (ow : Nat → Bool) (ad : List Adj) {code : Code} (hb : Tryz.f84.body = some code) (hc : CtOk pg ct) {args : List V} {r : V} (ha : Nat.ble args.length 11 = true) (hr : r.noId = true) (h : exec ⟨pg, ct, ow, 11, anL []⟩ code ⟨argE args, hOf []⟩ (PostF pg.prog ad [.tmp 2] r [])) : PCall pg 84 args r := pcall_inF ad hc fol 84 n84 hb rfl e84 rfl (bodyOk_at o84 hb rfl) ha hr h
theorem n85 : Tryz.prog.funcs[85]? = some Tryz.f85 := by kernel_rfl
theorem e85 : entB Tryz.prog 85 = true := by kernel_rfl
theorem o85 : bodyOk (anL []) Tryz.f85 = true := by kernel_rfl
theorem w85 {ct : Ct} (ow : Nat → Bool) (ad : List Adj) {code : Code} (hb : Tryz.f85.body = some code) (hc : CtOk pg ct) {args : List V} {r : V} (ha : Nat.ble args.length 22 = true) (hr : r.noId = true) (h : exec ⟨pg, ct, ow, 22, anL []⟩ code ⟨argE args, hOf []⟩ (PostF pg.prog ad [.tmp 2] r [])) : PCall pg 85 args r := pcall_inF ad hc fol 85 n85 hb rfl e85 rfl (bodyOk_at o85 hb rfl) ha hr h
theorem n86 : Tryz.prog.funcs[86]? = some Tryz.f86 := by kernel_rfl
theorem e86 : entB Tryz.prog 86 = true := by kernel_rfl
theorem o86 : bodyOk (anL []) Tryz.f86 = true := by kernel_rfl
theorem w86 {ct : Ct} (ow : Nat → Bool) (ad : List Adj) {code : Code} (hb : Tryz.f86.body = some code) (hc : CtOk pg ct) {args : List V} {r : V} (ha : Nat.ble args.length 35 = true) (hr : r.noId = true) (h : exec ⟨pg, ct, ow, 35, anL []⟩ code ⟨argE args, hOf []⟩ (PostF pg.prog ad [.tmp 2] r [])) : PCall pg 86 args r := pcall_inF ad hc fol 86 n86 hb rfl e86 rfl (bodyOk_at o86 hb rfl) ha hr h
theorem n87 : Tryz.prog.funcs[87]? = some Tryz.f87 := by kernel_rfl
theorem e87 : entB Tryz.prog 87 = true := by kernel_rfl
theorem o87 : bodyOk (anL []) Tryz.f87 = true := by kernel_rfl
theorem w87 {ct : Ct} (ow : Nat → Bool) (ad : List Adj) {code : Code} (hb : Tryz.f87.body = some code) (hc : CtOk pg ct) {args : List V} {r : V} (ha : Nat.ble args.length 15 = true) (hr : r.noId = true) (h : exec ⟨pg, ct, ow, 15, anL []⟩ code ⟨argE args, hOf []⟩ (PostF pg.prog ad [.tmp 2] r [])) : PCall pg 87 args r := pcall_inF ad hc fol 87 n87 hb rfl e87 rfl (bodyOk_at o87 hb rfl) ha hr h
theorem n88 : Tryz.prog.funcs[88]? = some Tryz.f88 := by kernel_rfl
theorem e88 : entB Tryz.prog 88 = true := by kernel_rfl
theorem o88 : bodyOk (anL []) Tryz.f88 = true := by kernel_rfl
theorem w88 {ct : Ct} (ow : Nat → Bool) (ad : List Adj) {code : Code} (hb : Tryz.f88.body = some code) (hc : CtOk pg ct) {args : List V} {r : V} (ha : Nat.ble args.length 6 = true) (hr : r.noId = true) (h : exec ⟨pg, ct, ow, 6, anL []⟩ code ⟨argE args, hOf []⟩ (PostF pg.prog ad [.tmp 2] r [])) : PCall pg 88 args r := pcall_inF ad hc fol 88 n88 hb rfl e88 rfl (bodyOk_at o88 hb rfl) ha hr h
theorem n89 : Tryz.prog.funcs[89]? = some Tryz.f89 := by kernel_rfl
theorem e89 : entB Tryz.prog 89 = true := by kernel_rfl
theorem o89 : bodyOk (anL []) Tryz.f89 = true := by kernel_rfl
theorem w89 {ct : Ct} (ow : Nat → Bool) (ad : List Adj) {code : Code} (hb : Tryz.f89.body = some code) (hc : CtOk pg ct) {args : List V} {r : V} (ha : Nat.ble args.length 37 = true) (hr : r.noId = true) (h : exec ⟨pg, ct, ow, 37, anL []⟩ code ⟨argE args, hOf []⟩ (PostF pg.prog ad [.tmp 2] r [])) : PCall pg 89 args r := pcall_inF ad hc fol 89 n89 hb rfl e89 rfl (bodyOk_at o89 hb rfl) ha hr h
theorem n90 : Tryz.prog.funcs[90]? = some Tryz.f90 := by kernel_rfl
theorem e90 : entB Tryz.prog 90 = true := by kernel_rfl
theorem o90 : bodyOk (anL []) Tryz.f90 = true := by kernel_rfl
theorem w90 {ct : Ct} (ow : Nat → Bool) (ad : List Adj) {code : Code} (hb : Tryz.f90.body = some code) (hc : CtOk pg ct) {args : List V} {r : V} (ha : Nat.ble args.length 33 = true) (hr : r.noId = true) (h : exec ⟨pg, ct, ow, 33, anL []⟩ code ⟨argE args, hOf []⟩ (PostF pg.prog ad [.tmp 2] r [])) : PCall pg 90 args r := pcall_inF ad hc fol 90 n90 hb rfl e90 rfl (bodyOk_at o90 hb rfl) ha hr h
theorem n91 : Tryz.prog.funcs[91]? = some Tryz.f91 := by kernel_rfl
theorem e91 : entB Tryz.prog 91 = true := by kernel_rfl
theorem o91 : bodyOk (anL []) Tryz.f91 = true := by kernel_rfl
theorem w91 {ct : Ct} (ow : Nat → Bool) (ad : List Adj) {code : Code} (hb : Tryz.f91.body = some code) (hc : CtOk pg ct) {args : List V} {r : V} (ha : Nat.ble args.length 14 = true) (hr : r.noId = true) (h : exec ⟨pg, ct, ow, 14, anL []⟩ code ⟨argE args, hOf []⟩ (PostF pg.prog ad [.tmp 4] r [])) : PCall pg 91 args r := pcall_inF ad hc fol 91 n91 hb rfl e91 rfl (bodyOk_at o91 hb rfl) ha hr h
theorem n92 : Tryz.prog.funcs[92]? = some Tryz.f92 := by kernel_rfl
theorem e92 : entB Tryz.prog 92 = true := by kernel_rfl
theorem o92 : bodyOk (anL []) Tryz.f92 = true := by kernel_rfl
theorem w92 {ct : Ct} (ow : Nat → Bool) (ad : List Adj) {code : Code} (hb : Tryz.f92.body = some code) (hc : CtOk pg ct) {args : List V} {r : V} (ha : Nat.ble args.length 9 = true) (hr : r.noId = true) (h : exec ⟨pg, ct, ow, 9, anL []⟩ code ⟨argE args, hOf []⟩ (PostF pg.prog ad [.tmp 4] r [])) : PCall pg 92 args r := pcall_inF ad hc fol 92 n92 hb rfl e92 rfl (bodyOk_at o92 hb rfl) ha hr h
theorem n93 : Tryz.prog.funcs[93]? = some Tryz.f93 := by kernel_rfl
theorem e93 : entB Tryz.prog 93 = true := by kernel_rfl
theorem o93 : bodyOk (anL []) Tryz.f93 = true := by kernel_rfl
theorem w93 {ct : Ct} (ow : Nat → Bool) (ad : List Adj) {code : Code} (hb : Tryz.f93.body = some code) (hc : CtOk pg ct) {args : List V} {r : V} (ha : Nat.ble args.length 8 = true) (hr : r.noId = true) (h : exec ⟨pg, ct, ow, 8, anL []⟩ code ⟨argE args, hOf []⟩ (PostF pg.prog ad [.tmp 4] r [])) : PCall pg 93 args r := pcall_inF ad hc fol 93 n93 hb rfl e93 rfl (bodyOk_at o93 hb rfl) ha hr h
theorem n94 : Tryz.prog.funcs[94]? = some Tryz.f94 := by kernel_rfl
theorem e94 : entB Tryz.prog 94 = true := by kernel_rfl
theorem o94 : bodyOk (anL [(2, [0, 0, 2, 6, 14, 31, 63, 127, 0, 256, 769, 2047, 4095, 1793, 0, 16384, 49152, 124673, 255745, 524287, 1048575, 0, 2097152, 6301441, 16777215, 33554431, 0, 67108864, 216016641, 536870911, 1073741823, 0, 2147483648, 6926903041, 17179869183, 34359738367, 0, 68719476736, 221675267841, 549755813887, 1099511627775, 2199023255551])]) Tryz.f94 = true := by kernel_rfl
theorem w94 {ct : Ct} (ow : Nat → Bool) (ad : List Adj) {code : Code} (hb : Tryz.f94.body = some code) (hc : CtOk pg ct) {args : List V} {r : V} (ha : Nat.ble args.length 47 = true) (hr : r.noId = true) (h : exec ⟨pg, ct, ow, 47, anL [(2, [0, 0, 2, 6, 14, 31, 63, 127, 0, 256, 769, 2047, 4095, 1793, 0, 16384, 49152, 124673, 255745, 524287, 1048575, 0, 2097152, 6301441, 16777215, 33554431, 0, 67108864, 216016641, 536870911, 1073741823, 0, 2147483648, 6926903041, 17179869183, 34359738367, 0, 68719476736, 221675267841, 549755813887, 1099511627775, 2199023255551])]⟩ code ⟨argE args, hOf []⟩ (PostF pg.prog ad [.tmp 2] r [])) : PCall pg 94 args r := pcall_inF ad hc fol 94 n94 hb rfl e94 rfl (bodyOk_at o94 hb rfl) ha hr h
theorem n95 : Tryz.prog.funcs[95]? = some Tryz.f95 := by kernel_rfl
theorem e95 : entB Tryz.prog 95 = true := by kernel_rfl
theorem o95 : bodyOk (anL []) Tryz.f95 = true := by kernel_rfl
theorem w95 {ct : Ct} (ow : Nat → Bool) (ad : List Adj) {code : Code} (hb : Tryz.f95.body = some code) (hc : CtOk pg ct) {args : List V} {r : V} (ha : Nat.ble args.length 5 = true) (hr : r.noId = true) (h : exec ⟨pg, ct, ow, 5, anL []⟩ code ⟨argE args, hOf []⟩ (PostF pg.prog ad [.tmp 2] r [])) : PCall pg 95 args r := pcall_inF ad hc fol 95 n95 hb rfl e95 rfl (bodyOk_at o95 hb rfl) ha hr h
theorem n97 : Tryz.prog.funcs[97]? = some Tryz.f97 := by kernel_rfl
theorem e97 : entB Tryz.prog 97 = true := by kernel_rfl
theorem o97 : bodyOk (anL []) Tryz.f97 = true := by kernel_rfl
theorem w97 {ct : Ct} (ow : Nat → Bool) (ad : List Adj) {code : Code} (hb : Tryz.f97.body = some code) (hc : CtOk pg ct) {args : List V} {r : V} (ha : Nat.ble args.length 8 = true) (hr : r.noId = true) (h : exec ⟨pg, ct, ow, 8, anL []⟩ code ⟨argE args, hOf []⟩ (PostF pg.prog ad [.tmp 4] r [])) : PCall pg 97 args r := pcall_inF ad hc fol 97 n97 hb rfl e97 rfl (bodyOk_at o97 hb rfl) ha hr h
theorem n98 : Tryz.prog.funcs[98]? = some Tryz.f98 := by kernel_rfl
theorem e98 : entB Tryz.prog 98 = true := by kernel_rfl
theorem o98 : bodyOk (anL []) Tryz.f98 = true := by kernel_rfl
theorem w98 {ct : Ct} (ow : Nat → Bool) (ad : List Adj) {code : Code} (hb : Tryz.f98.body = some code) (hc : CtOk pg ct) {args : List V} {r : V} (ha : Nat.ble args.length 8 = true) (hr : r.noId = true) (h : exec ⟨pg, ct, ow, 8, anL []⟩ code ⟨argE args, hOf []⟩ (PostF pg.prog ad [.tmp 4] r [])) : PCall pg 98 args r := pcall_inF ad hc fol 98 n98 hb rfl e98 rfl (bodyOk_at o98 hb rfl) ha hr h
theorem n99 : Tryz.prog.funcs[99]? = some Tryz.f99 := by kernel_rfl
theorem e99 : entB Tryz.prog 99 = true := by kernel_rfl
theorem o99 : bodyOk (anL []) Tryz.f99 = true := by kernel_rfl
theorem w99 {ct : Ct} (ow : Nat → Bool) (ad : List Adj) {code : Code} (hb : Tryz.f99.body = some code) (hc : CtOk pg ct) {args : List V} {r : V} (ha : Nat.ble args.length 26 = true) (hr : r.noId = true) (h : exec ⟨pg, ct, ow, 26, anL []⟩ code ⟨argE args, hOf []⟩ (PostF pg.prog ad [.tmp 2, .tmp 3] r [])) : PCall pg 99 args r := pcall_inF ad hc fol 99 n99 hb rfl e99 rfl (bodyOk_at o99 hb rfl) ha hr h
theorem n100 : Tryz.prog.funcs[100]? = some Tryz.f100 := by kernel_rfl
theorem e100 : entB Tryz.prog 100 = true := by kernel_rfl
theorem o100 : bodyOk (anL [(3, [0, 0, 2, 7, 15, 31]), (5, [0, 1, 0, 4, 0, 16, 0, 64, 0, 256, 1023, 2047, 0]), (15, [0, 1, 3, 0, 15, 0, 32, 96, 255, 511, 1023, 0, 2048, 6144, 14336, 32767, 0, 65536, 196608, 458752, 1048575, 0, 2097152, 6291456, 16777215, 33554431])]) Tryz.f100 = true := by kernel_rfl
theorem w100 {ct : Ct} (ow : Nat → Bool) (ad : List Adj) {code : Code} (hb : Tryz.f100.body = some code) (hc : CtOk pg ct) {args : List V} {r : V} (ha : Nat.ble args.length 91 = true) (hr : r.noId = true) (h : exec ⟨pg, ct, ow, 91, anL [(3, [0, 0, 2, 7, 15, 31]), (5, [0, 1, 0, 4, 0, 16, 0, 64, 0, 256, 1023, 2047, 0]), (15, [0, 1, 3, 0, 15, 0, 32, 96, 255, 511, 1023, 0, 2048, 6144, 14336, 32767, 0, 65536, 196608, 458752, 1048575, 0, 2097152, 6291456, 16777215, 33554431])]⟩ code ⟨argE args, hOf []⟩ (PostF pg.prog ad [.tmp 2, .tmp 3] r [])) : PCall pg 100 args r := pcall_inF ad hc fol 100 n100 hb rfl e100 rfl (bodyOk_at o100 hb rfl) ha hr h
theorem n101 : Tryz.prog.funcs[101]? = some Tryz.f101 := by kernel_rfl
theorem e101 : entB Tryz.prog 101 = true := by kernel_rfl
theorem o101 : bodyOk (anL []) Tryz.f101 = true := by kernel_rfl
theorem w101 {ct : Ct} (ow : Nat → Bool) (ad : List Adj) {code : Code} (hb : Tryz.f101.body = some code) (hc : CtOk pg ct) {args : List V} {r : V} (ha : Nat.ble args.length 13 = true) (hr : r.noId = true) (h : exec ⟨pg, ct, ow, 13, anL []⟩ code ⟨argE args, hOf []⟩ (PostF pg.prog ad [.tmp 4] r [])) : PCall pg 101 args r := pcall_inF ad hc fol 101 n101 hb rfl e101 rfl (bodyOk_at o101 hb rfl) ha hr h
theorem n113 : Tryz.prog.funcs[113]? = some Tryz.f113 := by kernel_rfl
theorem e113 : entB Tryz.prog 113 = true := by kernel_rfl
theorem o113 : bodyOk (anL [(5, [0, 0, 2, 7, 15, 31, 31, 95, 255, 511, 1023, 2047, 2047, 2047, 10239, 32767, 65535, 2047, 2047, 2047, 526335, 1968127, 4194303, 8388607])]) Tryz.f113 = true := by kernel_rfl
theorem w113 {ct : Ct} (ow : Nat → Bool) (ad : List Adj) {code : Code} (hb : Tryz.f113.body = some code) (hc : CtOk pg ct) {args : List V} {r : V} (ha : Nat.ble args.length 54 = true) (hr : r.noId = true) (h : exec ⟨pg, ct, ow, 54, anL [(5, [0, 0, 2, 7, 15, 31, 31, 95, 255, 511, 1023, 2047, 2047, 2047, 10239, 32767, 65535, 2047, 2047, 2047, 526335, 1968127, 4194303, 8388607])]⟩ code ⟨argE args, hOf []⟩ (PostF pg.prog ad [.tmp 2, .tmp 3, .tmp 4] r [])) : PCall pg 113 args r := pcall_inF ad hc fol 113 n113 hb rfl e113 rfl (bodyOk_at o113 hb rfl) ha hr h
theorem n114 : Tryz.prog.funcs[114]? = some Tryz.f114 := by kernel_rfl
theorem e114 : entB Tryz.prog 114 = true := by kernel_rfl
theorem o114 : bodyOk (anL [(1, [0, 1, 3, 7, 0, 16, 48, 112, 255, 511, 1023]), (2, [0, 0, 2, 6, 14, 0, 32, 96, 224, 0, 512, 1536, 3584, 0, 15872, 32766, 65535, 131071, 262143, 524287]), (6, [0, 1, 3, 7, 0, 16, 48, 112, 255, 511]), (11, [0, 0, 2, 6, 14, 0, 32, 96, 224, 0, 1022, 2047, 4095, 8191, 16383]), (15, [0, 1, 3, 7, 0, 16, 48, 112, 240, 511, 1023, 2047, 4095, 8191, 16383, 2047, 34815, 100351, 231423, 524287, 1048575, 2097151, 4194303, 8388607])]) Tryz.f114 = true := by kernel_rfl
theorem fw114 {ct : Ct} (ow : Nat → Bool) (ad : List Adj) {code : Code} (hb : Tryz.f114.body = some code) (hc : CtOk pg ct) {args : List V} {hl hl' : HL} {r : V} (ha : Nat.ble args.length 136 = true) (hlo : ∀ p ∈ hl, 9000 ≤ p.1) (hin : hlIn (idsIn hl) hl') (hr : V.menIn (idsIn hl) r = true) (h : exec ⟨pg, ct, ow, 136, anL [(1, [0, 1, 3, 7, 0, 16, 48, 112, 255, 511, 1023]), (2, [0, 0, 2, 6, 14, 0, 32, 96, 224, 0, 512, 1536, 3584, 0, 15872, 32766, 65535, 131071, 262143, 524287]), (6, [0, 1, 3, 7, 0, 16, 48, 112, 255, 511]), (11, [0, 0, 2, 6, 14, 0, 32, 96, 224, 0, 1022, 2047, 4095, 8191, 16383]), (15, [0, 1, 3, 7, 0, 16, 48, 112, 240, 511, 1023, 2047, 4095, 8191, 16383, 2047, 34815, 100351, 231423, 524287, 1048575, 2097151, 4194303, 8388607])]⟩ code ⟨argE args, hOf hl⟩ (PostF pg.prog ad [.tmp 2] r hl')) : FCall pg 114 args hl r hl' := fcall_inF ad hc fol 114 n114 hb rfl e114 rfl (bodyOk_at o114 hb rfl) ha hlo hin hr h
theorem n115 : Tryz.prog.funcs[115]? = some Tryz.f115 := by kernel_rfl
theorem e115 : entB Tryz.prog 115 = true := by kernel_rfl
theorem o115 : bodyOk (anL [(5, [0, 1, 3, 7, 0, 16, 48, 112, 255, 511]), (11, [0, 1, 3, 7, 0, 16, 48, 112, 255, 511])]) Tryz.f115 = true := by kernel_rfl
theorem fw115 {ct : Ct} (ow : Nat → Bool) (ad : List Adj) {code : Code} (hb : Tryz.f115.body = some code) (hc : CtOk pg ct) {args : List V} {hl hl' : HL} {r : V} (ha : Nat.ble args.length 79 = true) (hlo : ∀ p ∈ hl, 9000 ≤ p.1) (hin : hlIn (idsIn hl) hl') (hr : V.menIn (idsIn hl) r = true) (h : exec ⟨pg, ct, ow, 79, anL [(5, [0, 1, 3, 7, 0, 16, 48, 112, 255, 511]), (11, [0, 1, 3, 7, 0, 16, 48, 112, 255, 511])]⟩ code ⟨argE args, hOf hl⟩ (PostF pg.prog ad [.tmp 2] r hl')) : FCall pg 115 args hl r hl' := fcall_inF ad hc fol 115 n115 hb rfl e115 rfl (bodyOk_at o115 hb rfl) ha hlo hin hr h
theorem n126 : Tryz.prog.funcs[126]? = some Tryz.f126 := by kernel_rfl
theorem e126 : entB Tryz.prog 126 = true := by kernel_rfl
theorem o126 : bodyOk (anL []) Tryz.f126 = true := by kernel_rfl
theorem w126 {ct : Ct} (ow : Nat → Bool) (ad : List Adj) {code : Code} (hb : Tryz.f126.body = some code) (hc : CtOk pg ct) {args : List V} {r : V} (ha : Nat.ble args.length 21 = true) (hr : r.noId = true) (h : exec ⟨pg, ct, ow, 21, anL []⟩ code ⟨argE args, hOf []⟩ (PostF pg.prog ad [.cell 2 24, .tmp 3, .tmp 4] r [])) : PCall pg 126 args r := pcall_inF ad hc fol 126 n126 hb rfl e126 rfl (bodyOk_at o126 hb rfl) ha hr h
theorem n127 : Tryz.prog.funcs[127]? = some Tryz.f127 := by kernel_rfl
theorem e127 : entB Tryz.prog 127 = true := by kernel_rfl
theorem o127 : bodyOk (anL []) Tryz.f127 = true := by kernel_rfl
theorem fw127 {ct : Ct} (ow : Nat → Bool) (ad : List Adj) {code : Code} (hb : Tryz.f127.body = some code) (hc : CtOk pg ct) {args : List V} {hl hl' : HL} {r : V} (ha : Nat.ble args.length 19 = true) (hlo : ∀ p ∈ hl, 9000 ≤ p.1) (hin : hlIn (idsIn hl) hl') (hr : V.menIn (idsIn hl) r = true) (h : exec ⟨pg, ct, ow, 19, anL []⟩ code ⟨argE args, hOf hl⟩ (PostF pg.prog ad [.tmp 4] r hl')) : FCall pg 127 args hl r hl' := fcall_inF ad hc fol 127 n127 hb rfl e127 rfl (bodyOk_at o127 hb rfl) ha hlo hin hr h
theorem n128 : Tryz.prog.funcs[128]? = some Tryz.f128 := by kernel_rfl
theorem e128 : entB Tryz.prog 128 = true := by kernel_rfl
theorem o128 : bodyOk (anL []) Tryz.f128 = true := by kernel_rfl
theorem w128 {ct : Ct} (ow : Nat → Bool) (ad : List Adj) {code : Code} (hb : Tryz.f128.body = some code) (hc : CtOk pg ct) {args : List V} {r : V} (ha : Nat.ble args.length 49 = true) (hr : r.noId = true) (h : exec ⟨pg, ct, ow, 49, anL []⟩ code ⟨argE args, hOf []⟩ (PostF pg.prog ad [.tmp 2] r [])) : PCall pg 128 args r := pcall_inF ad hc fol 128 n128 hb rfl e128 rfl (bodyOk_at o128 hb rfl) ha hr h
theorem n129 : Tryz.prog.funcs[129]? = some Tryz.f129 := by kernel_rfl
theorem e129 : entB Tryz.prog 129 = true := by kernel_rfl
theorem o129 : bodyOk (anL []) Tryz.f129 = true := by kernel_rfl
theorem w129 {ct : Ct} (ow : Nat → Bool) (ad : List Adj) {code : Code} (hb : Tryz.f129.body = some code) (hc : CtOk pg ct) {args : List V} {r : V} (ha : Nat.ble args.length 65 = true) (hr : r.noId = true) (h : exec ⟨pg, ct, ow, 65, anL []⟩ code ⟨argE args, hOf []⟩ (PostF pg.prog ad [.tmp 4, .tmp 5] r [])) : PCall pg 129 args r := pcall_inF ad hc fol 129 n129 hb rfl e129 rfl (bodyOk_at o129 hb rfl) ha hr h
theorem n130 : Tryz.prog.funcs[130]? = some Tryz.f130 := by kernel_rfl
theorem e130 : entB Tryz.prog 130 = true := by kernel_rfl
theorem o130 : bodyOk (anL []) Tryz.f130 = true := by kernel_rfl
theorem w130 {ct : Ct} (ow : Nat → Bool) (ad : List Adj) {code : Code} (hb : Tryz.f130.body = some code) (hc : CtOk pg ct) {args : List V} {r : V} (ha : Nat.ble args.length 21 = true) (hr : r.noId = true) (h : exec ⟨pg, ct, ow, 21, anL []⟩ code ⟨argE args, hOf []⟩ (PostF pg.prog ad [.tmp 2] r [])) : PCall pg 130 args r := pcall_inF ad hc fol 130 n130 hb rfl e130 rfl (bodyOk_at o130 hb rfl) ha hr h
theorem n131 : Tryz.prog.funcs[131]? = some Tryz.f131 := by kernel_rfl
theorem e131 : entB Tryz.prog 131 = true := by kernel_rfl
theorem o131 : bodyOk (anL []) Tryz.f131 = true := by kernel_rfl
theorem w131 {ct : Ct} (ow : Nat → Bool) (ad : List Adj) {code : Code} (hb : Tryz.f131.body = some code) (hc : CtOk pg ct) {args : List V} {r : V} (ha : Nat.ble args.length 15 = true) (hr : r.noId = true) (h : exec ⟨pg, ct, ow, 15, anL []⟩ code ⟨argE args, hOf []⟩ (PostF pg.prog ad [.tmp 4, .tmp 5] r [])) : PCall pg 131 args r := pcall_inF ad hc fol 131 n131 hb rfl e131 rfl (bodyOk_at o131 hb rfl) ha hr h
theorem n132 : Tryz.prog.funcs[132]? = some Tryz.f132 := by kernel_rfl
theorem e132 : entB Tryz.prog 132 = true := by kernel_rfl
theorem o132 : bodyOk (anL []) Tryz.f132 = true := by kernel_rfl
theorem w132 {ct : Ct} (ow : Nat → Bool) (ad : List Adj) {code : Code} (hb : Tryz.f132.body = some code) (hc : CtOk pg ct) {args : List V} {r : V} (ha : Nat.ble args.length 21 = true) (hr : r.noId = true) (h : exec ⟨pg, ct, ow, 21, anL []⟩ code ⟨argE args, hOf []⟩ (PostF pg.prog ad [.tmp 4] r [])) : PCall pg 132 args r := pcall_inF ad hc fol 132 n132 hb rfl e132 rfl (bodyOk_at o132 hb rfl) ha hr h
theorem n133 : Tryz.prog.funcs[133]? = some Tryz.f133 := by kernel_rfl
theorem e133 : entB Tryz.prog 133 = true := by kernel_rfl
theorem o133 : bodyOk (anL [(4, [0, 0, 3, 7, 15, 15, 15, 111, 239, 15, 15, 1039, 3599, 7695, 16383, 32767, 65535]), (6, [0, 0, 0, 0, 8, 0, 0, 64, 224, 480, 0, 0, 3072, 7168, 16355, 32739, 65535, 131071])]) Tryz.f133 = true := by kernel_rfl
theorem fw133 {ct : Ct} (ow : Nat → Bool) (ad : List Adj) {code : Code} (hb : Tryz.f133.body = some code) (hc : CtOk pg ct) {args : List V} {hl hl' : HL} {r : V} (ha : Nat.ble args.length 53 = true) (hlo : ∀ p ∈ hl, 9000 ≤ p.1) (hin : hlIn (idsIn hl) hl') (hr : V.menIn (idsIn hl) r = true) (h : exec ⟨pg, ct, ow, 53, anL [(4, [0, 0, 3, 7, 15, 15, 15, 111, 239, 15, 15, 1039, 3599, 7695, 16383, 32767, 65535]), (6, [0, 0, 0, 0, 8, 0, 0, 64, 224, 480, 0, 0, 3072, 7168, 16355, 32739, 65535, 131071])]⟩ code ⟨argE args, hOf hl⟩ (PostF pg.prog ad [] r hl')) : FCall pg 133 args hl r hl' := fcall_inF ad hc fol 133 n133 hb rfl e133 rfl (bodyOk_at o133 hb rfl) ha hlo hin hr h
theorem n134 : Tryz.prog.funcs[134]? = some Tryz.f134 := by kernel_rfl
theorem e134 : entB Tryz.prog 134 = true := by kernel_rfl
theorem o134 : bodyOk (anL [(5, [0, 0, 0, 6, 14, 0, 0, 96, 224, 511, 1023]), (11, [0, 0, 0, 0, 8, 0, 0, 64, 224, 480, 0, 0, 3072, 7168, 16355, 32739, 65535, 131071]), (17, [0, 0, 0, 6, 14, 0, 0, 96, 224, 511, 1023, 2047]), (23, [0, 0, 0, 0, 8, 0, 0, 64, 224, 480, 0, 0, 3072, 7168, 16355, 32739, 65535, 131071]), (35, [0, 0, 0, 0, 12, 30, 62, 0, 0, 384, 896, 2047, 4095, 8191])]) Tryz.f134 = true := by kernel_rfl
theorem fw134 {ct : Ct} (ow : Nat → Bool) (ad : List Adj) {code : Code} (hb : Tryz.f134.body = some code) (hc : CtOk pg ct) {args : List V} {hl hl' : HL} {r : V} (ha : Nat.ble args.length 220 = true) (hlo : ∀ p ∈ hl, 9000 ≤ p.1) (hin : hlIn (idsIn hl) hl') (hr : V.menIn (idsIn hl) r = true) (h : exec ⟨pg, ct, ow, 220, anL [(5, [0, 0, 0, 6, 14, 0, 0, 96, 224, 511, 1023]), (11, [0, 0, 0, 0, 8, 0, 0, 64, 224, 480, 0, 0, 3072, 7168, 16355, 32739, 65535, 131071]), (17, [0, 0, 0, 6, 14, 0, 0, 96, 224, 511, 1023, 2047]), (23, [0, 0, 0, 0, 8, 0, 0, 64, 224, 480, 0, 0, 3072, 7168, 16355, 32739, 65535, 131071]), (35, [0, 0, 0, 0, 12, 30, 62, 0, 0, 384, 896, 2047, 4095, 8191])]⟩ code ⟨argE args, hOf hl⟩ (PostF pg.prog ad [] r hl')) : FCall pg 134 args hl r hl' := fcall_inF ad hc fol 134 n134 hb rfl e134 rfl (bodyOk_at o134 hb rfl) ha hlo hin hr h
theorem n136 : Tryz.prog.funcs[136]? = some Tryz.f136 := by kernel_rfl
theorem e136 : entB Tryz.prog 136 = true := by kernel_rfl
theorem o136 : bodyOk (anL []) Tryz.f136 = true := by kernel_rfl
theorem w136 {ct : Ct} (ow : Nat → Bool) (ad : List Adj) {code : Code} (hb : Tryz.f136.body = some code) (hc : CtOk pg ct) {args : List V} {r : V} (ha : Nat.ble args.length 45 = true) (hr : r.noId = true) (h : exec ⟨pg, ct, ow, 45, anL []⟩ code ⟨argE args, hOf []⟩ (PostF pg.prog ad [.tmp 2] r [])) : PCall pg 136 args r := pcall_inF ad hc fol 136 n136 hb rfl e136 rfl (bodyOk_at o136 hb rfl) ha hr h
theorem n137 : Tryz.prog.funcs[137]? = some Tryz.f137 := by kernel_rfl
theorem e137 : entB Tryz.prog 137 = true := by kernel_rfl
theorem o137 : bodyOk (anL []) Tryz.f137 = true := by kernel_rfl
theorem w137 {ct : Ct} (ow : Nat → Bool) (ad : List Adj) {code : Code} (hb : Tryz.f137.body = some code) (hc : CtOk pg ct) {args : List V} {r : V} (ha : Nat.ble args.length 35 = true) (hr : r.noId = true) (h : exec ⟨pg, ct, ow, 35, anL []⟩ code ⟨argE args, hOf []⟩ (PostF pg.prog ad [.tmp 2] r [])) : PCall pg 137 args r := pcall_inF ad hc fol 137 n137 hb rfl e137 rfl (bodyOk_at o137 hb rfl) ha hr h
theorem n138 : Tryz.prog.funcs[138]? = some Tryz.f138 := by kernel_rfl
theorem e138 : entB Tryz.prog 138 = true := by kernel_rfl
theorem o138 : bodyOk (anL []) Tryz.f138 = true := by kernel_rfl
theorem w138 {ct : Ct} (ow : Nat → Bool) (ad : List Adj) {code : Code} (hb : Tryz.f138.body = some code) (hc : CtOk pg ct) {args : List V} {r : V} (ha : Nat.ble args.length 19 = true) (hr : r.noId = true) (h : exec ⟨pg, ct, ow, 19, anL []⟩ code ⟨argE args, hOf []⟩ (PostF pg.prog ad [.tmp 2] r [])) : PCall pg 138 args r := pcall_inF ad hc fol 138 n138 hb rfl e138 rfl (bodyOk_at o138 hb rfl) ha hr h
theorem n139 : Tryz.prog.funcs[139]? = some Tryz.f139 := by kernel_rfl
theorem e139 : entB Tryz.prog 139 = true := by kernel_rfl
theorem o139 : bodyOk (anL []) Tryz.f139 = true := by kernel_rfl
theorem w139 {ct : Ct} (ow : Nat → Bool) (ad : List Adj) {code : Code} (hb : Tryz.f139.body = some code) (hc : CtOk pg ct) {args : List V} {r : V} (ha : Nat.ble args.length 48 = true) (hr : r.noId = true) (h : exec ⟨pg, ct, ow, 48, anL []⟩ code ⟨argE args, hOf []⟩ (PostF pg.prog ad [.tmp 2] r [])) : PCall pg 139 args r := pcall_inF ad hc fol 139 n139 hb rfl e139 rfl (bodyOk_at o139 hb rfl) ha hr h
theorem n140 : Tryz.prog.funcs[140]? = some Tryz.f140 := by kernel_rfl
theorem e140 : entB Tryz.prog 140 = true := by kernel_rfl
theorem o140 : bodyOk (anL []) Tryz.f140 = true := by kernel_rfl
theorem w140 {ct : Ct} (ow : Nat → Bool) (ad : List Adj) {code : Code} (hb : Tryz.f140.body = some code) (hc : CtOk pg ct) {args : List V} {r : V} (ha : Nat.ble args.length 9 = true) (hr : r.noId = true) (h : exec ⟨pg, ct, ow, 9, anL []⟩ code ⟨argE args, hOf []⟩ (PostF pg.prog ad [.tmp 2] r [])) : PCall pg 140 args r := pcall_inF ad hc fol 140 n140 hb rfl e140 rfl (bodyOk_at o140 hb rfl) ha hr h
theorem n141 : Tryz.prog.funcs[141]? = some Tryz.f141 := by kernel_rfl
theorem e141 : entB Tryz.prog 141 = true := by kernel_rfl
theorem o141 : bodyOk (anL []) Tryz.f141 = true := by kernel_rfl
theorem w141 {ct : Ct} (ow : Nat → Bool) (ad : List Adj) {code : Code} (hb : Tryz.f141.body = some code) (hc : CtOk pg ct) {args : List V} {r : V} (ha : Nat.ble args.length 53 = true) (hr : r.noId = true) (h : exec ⟨pg, ct, ow, 53, anL []⟩ code ⟨argE args, hOf []⟩ (PostF pg.prog ad [.tmp 4] r [])) : PCall pg 141 args r := pcall_inF ad hc fol 141 n141 hb rfl e141 rfl (bodyOk_at o141 hb rfl) ha hr h
theorem n142 : Tryz.prog.funcs[142]? = some Tryz.f142 := by kernel_rfl
theorem e142 : entB Tryz.prog 142 = true := by kernel_rfl
theorem o142 : bodyOk (anL []) Tryz.f142 = true := by kernel_rfl
theorem w142 {ct : Ct} (ow : Nat → Bool) (ad : List Adj) {code : Code} (hb : Tryz.f142.body = some code) (hc : CtOk pg ct) {args : List V} {r : V} (ha : Nat.ble args.length 18 = true) (hr : r.noId = true) (h : exec ⟨pg, ct, ow, 18, anL []⟩ code ⟨argE args, hOf []⟩ (PostF pg.prog ad [.tmp 4] r [])) : PCall pg 142 args r := pcall_inF ad hc fol 142 n142 hb rfl e142 rfl (bodyOk_at o142 hb rfl) ha hr h
theorem n143 : Tryz.prog.funcs[143]? = some Tryz.f143 := by kernel_rfl
theorem e143 : entB Tryz.prog 143 = true := by kernel_rfl
theorem o143 : bodyOk (anL []) Tryz.f143 = true := by kernel_rfl
theorem w143 {ct : Ct} (ow : Nat → Bool) (ad : List Adj) {code : Code} (hb : Tryz.f143.body = some code) (hc : CtOk pg ct) {args : List V} {r : V} (ha : Nat.ble args.length 58 = true) (hr : r.noId = true) (h : exec ⟨pg, ct, ow, 58, anL []⟩ code ⟨argE args, hOf []⟩ (PostF pg.prog ad [.cell 2 136] r [])) : PCall pg 143 args r := pcall_inF ad hc fol 143 n143 hb rfl e143 rfl (bodyOk_at o143 hb rfl) ha hr h
theorem n144 : Tryz.prog.funcs[144]? = some Tryz.f144 := by kernel_rfl
theorem e144 : entB Tryz.prog 144 = true := by kernel_rfl
theorem o144 : bodyOk (anL []) Tryz.f144 = true := by kernel_rfl
theorem w144 {ct : Ct} (ow : Nat → Bool) (ad : List Adj) {code : Code} (hb : Tryz.f144.body = some code) (hc : CtOk pg ct) {args : List V} {r : V} (ha : Nat.ble args.length 2 = true) (hr : r.noId = true) (h : exec ⟨pg, ct, ow, 2, anL []⟩ code ⟨argE args, hOf []⟩ (PostF pg.prog ad [.tmp 0] r [])) : PCall pg 144 args r := pcall_inF ad hc fol 144 n144 hb rfl e144 rfl (bodyOk_at o144 hb rfl) ha hr h
theorem n145 : Tryz.prog.funcs[145]? = some Tryz.f145 := by kernel_rfl
theorem e145 : entB Tryz.prog 145 = true := by kernel_rfl
theorem o145 : bodyOk (anL []) Tryz.f145 = true := by kernel_rfl
theorem w145 {ct : Ct} (ow : Nat → Bool) (ad : List Adj) {code : Code} (hb : Tryz.f145.body = some code) (hc : CtOk pg ct) {args : List V} {r : V} (ha : Nat.ble args.length 16 = true) (hr : r.noId = true) (h : exec ⟨pg, ct, ow, 16, anL []⟩ code ⟨argE args, hOf []⟩ (PostF pg.prog ad [.tmp 4] r [])) : PCall pg 145 args r := pcall_inF ad hc fol 145 n145 hb rfl e145 rfl (bodyOk_at o145 hb rfl) ha hr h
theorem n146 : Tryz.prog.funcs[146]? = some Tryz.f146 := by kernel_rfl
theorem e146 : entB Tryz.prog 146 = true := by kernel_rfl
theorem o146 : bodyOk (anL []) Tryz.f146 = true := by kernel_rfl
theorem w146 {ct : Ct} (ow : Nat → Bool) (ad : List Adj) {code : Code} (hb : Tryz.f146.body = some code) (hc : CtOk pg ct) {args : List V} {r : V} (ha : Nat.ble args.length 2 = true) (hr : r.noId = true) (h : exec ⟨pg, ct, ow, 2, anL []⟩ code ⟨argE args, hOf []⟩ (PostF pg.prog ad [.tmp 0] r [])) : PCall pg 146 args r := pcall_inF ad hc fol 146 n146 hb rfl e146 rfl (bodyOk_at o146 hb rfl) ha hr h
theorem n148 : Tryz.prog.funcs[148]? = some Tryz.f148 := by kernel_rfl
theorem e148 : entB Tryz.prog 148 = true := by kernel_rfl
theorem o148 : bodyOk (anL []) Tryz.f148 = true := by kernel_rfl
theorem w148 {ct : Ct} (ow : Nat → Bool) (ad : List Adj) {code : Code} (hb : Tryz.f148.body = some code) (hc : CtOk pg ct) {args : List V} {r : V} (ha : Nat.ble args.length 8 = true) (hr : r.noId = true) (h : exec ⟨pg, ct, ow, 8, anL []⟩ code ⟨argE args, hOf []⟩ (PostF pg.prog ad [.tmp 4] r [])) : PCall pg 148 args r := pcall_inF ad hc fol 148 n148 hb rfl e148 rfl (bodyOk_at o148 hb rfl) ha hr h
theorem n149 : Tryz.prog.funcs[149]? = some Tryz.f149 := by kernel_rfl
theorem e149 : entB Tryz.prog 149 = true := by kernel_rfl
theorem o149 : bodyOk (anL []) Tryz.f149 = true := by kernel_rfl
theorem w149 {ct : Ct} (ow : Nat → Bool) (ad : List Adj) {code : Code} (hb : Tryz.f149.body = some code) (hc : CtOk pg ct) {args : List V} {r : V} (ha : Nat.ble args.length 19 = true) (hr : r.noId = true) (h : exec ⟨pg, ct, ow, 19, anL []⟩ code ⟨argE args, hOf []⟩ (PostF pg.prog ad [.tmp 4] r [])) : PCall pg 149 args r := pcall_inF ad hc fol 149 n149 hb rfl e149 rfl (bodyOk_at o149 hb rfl) ha hr h
theorem n150 : Tryz.prog.funcs[150]? = some Tryz.f150 := by kernel_rfl
theorem e150 : entB Tryz.prog 150 = true := by kernel_rfl
theorem o150 : bodyOk (anL []) Tryz.f150 = true := by kernel_rfl
theorem w150 {ct : Ct} (ow : Nat → Bool) (ad : List Adj) {code : Code} (hb : Tryz.f150.body = some code) (hc : CtOk pg ct) {args : List V} {r : V} (ha : Nat.ble args.length 19 = true) (hr : r.noId = true) (h : exec ⟨pg, ct, ow, 19, anL []⟩ code ⟨argE args, hOf []⟩ (PostF pg.prog ad [.tmp 4] r [])) : PCall pg 150 args r := pcall_inF ad hc fol 150 n150 hb rfl e150 rfl (bodyOk_at o150 hb rfl) ha hr h
theorem n151 : Tryz.prog.funcs[151]? = some Tryz.f151 := by kernel_rfl
theorem e151 : entB Tryz.prog 151 = true := by kernel_rfl
theorem o151 : bodyOk (anL []) Tryz.f151 = true := by kernel_rfl
theorem w151 {ct : Ct} (ow : Nat → Bool) (ad : List Adj) {code : Code} (hb : Tryz.f151.body = some code) (hc : CtOk pg ct) {args : List V} {r : V} (ha : Nat.ble args.length 33 = true) (hr : r.noId = true) (h : exec ⟨pg, ct, ow, 33, anL []⟩ code ⟨argE args, hOf []⟩ (PostF pg.prog ad [.tmp 4] r [])) : PCall pg 151 args r := pcall_inF ad hc fol 151 n151 hb rfl e151 rfl (bodyOk_at o151 hb rfl) ha hr h
theorem n164 : Tryz.prog.funcs[164]? = some Tryz.f164 := by kernel_rfl
theorem e164 : entB Tryz.prog 164 = true := by kernel_rfl
theorem o164 : bodyOk (anL [(8, [0, 0, 0, 6, 15, 0, 0, 0, 128, 480, 992, 2047, 0, 0, 8192, 28672, 4095, 131071]), (4, [0, 0, 0, 4, 14, 31, 0, 0, 128, 448, 63, 2047])]) Tryz.f164 = true := by kernel_rfl
theorem w164 {ct : Ct} (ow : Nat → Bool) (ad : List Adj) {code : Code} (hb : Tryz.f164.body = some code) (hc : CtOk pg ct) {args : List V} {r : V} (ha : Nat.ble args.length 62 = true) (hr : r.noId = true) (h : exec ⟨pg, ct, ow, 62, anL [(8, [0, 0, 0, 6, 15, 0, 0, 0, 128, 480, 992, 2047, 0, 0, 8192, 28672, 4095, 131071]), (4, [0, 0, 0, 4, 14, 31, 0, 0, 128, 448, 63, 2047])]⟩ code ⟨argE args, hOf []⟩ (PostF pg.prog ad [.tmp 2] r [])) : PCall pg 164 args r := pcall_inF ad hc fol 164 n164 hb rfl e164 rfl (bodyOk_at o164 hb rfl) ha hr h
theorem n165 : Tryz.prog.funcs[165]? = some Tryz.f165 := by kernel_rfl
theorem e165 : entB Tryz.prog 165 = true := by kernel_rfl
theorem o165 : bodyOk (anL []) Tryz.f165 = true := by kernel_rfl
theorem w165 {ct : Ct} (ow : Nat → Bool) (ad : List Adj) {code : Code} (hb : Tryz.f165.body = some code) (hc : CtOk pg ct) {args : List V} {r : V} (ha : Nat.ble args.length 35 = true) (hr : r.noId = true) (h : exec ⟨pg, ct, ow, 35, anL []⟩ code ⟨argE args, hOf []⟩ (PostF pg.prog ad [.tmp 2] r [])) : PCall pg 165 args r := pcall_inF ad hc fol 165 n165 hb rfl e165 rfl (bodyOk_at o165 hb rfl) ha hr h
theorem n166 : Tryz.prog.funcs[166]? = some Tryz.f166 := by kernel_rfl
theorem e166 : entB Tryz.prog 166 = true := by kernel_rfl
theorem o166 : bodyOk (anL []) Tryz.f166 = true := by kernel_rfl
theorem w166 {ct : Ct} (ow : Nat → Bool) (ad : List Adj) {code : Code} (hb : Tryz.f166.body = some code) (hc : CtOk pg ct) {args : List V} {r : V} (ha : Nat.ble args.length 9 = true) (hr : r.noId = true) (h : exec ⟨pg, ct, ow, 9, anL []⟩ code ⟨argE args, hOf []⟩ (PostF pg.prog ad [.tmp 2] r [])) : PCall pg 166 args r := pcall_inF ad hc fol 166 n166 hb rfl e166 rfl (bodyOk_at o166 hb rfl) ha hr h
theorem n167 : Tryz.prog.funcs[167]? = some Tryz.f167 := by kernel_rfl
theorem e167 : entB Tryz.prog 167 = true := by kernel_rfl
theorem o167 : bodyOk (anL [(1, [0, 1, 3, 7, 0, 16, 48, 112, 255, 0, 1023, 2047, 4095, 4095, 8191, 32767]), (2, [0, 1, 3, 7, 0, 16, 48, 112, 0, 256, 768, 1792, 0, 7936, 16383, 32767])]) Tryz.f167 = true := by kernel_rfl
theorem fw167 {ct : Ct} (ow : Nat → Bool) (ad : List Adj) {code : Code} (hb : Tryz.f167.body = some code) (hc : CtOk pg ct) {args : List V} {hl hl' : HL} {r : V} (ha : Nat.ble args.length 48 = true) (hlo : ∀ p ∈ hl, 9000 ≤ p.1) (hin : hlIn (idsIn hl) hl') (hr : V.menIn (idsIn hl) r = true) (h : exec ⟨pg, ct, ow, 48, anL [(1, [0, 1, 3, 7, 0, 16, 48, 112, 255, 0, 1023, 2047, 4095, 4095, 8191, 32767]), (2, [0, 1, 3, 7, 0, 16, 48, 112, 0, 256, 768, 1792, 0, 7936, 16383, 32767])]⟩ code ⟨argE args, hOf hl⟩ (PostF pg.prog ad [.tmp 4, .tmp 5] r hl')) : FCall pg 167 args hl r hl' := fcall_inF ad hc fol 167 n167 hb rfl e167 rfl (bodyOk_at o167 hb rfl) ha hlo hin hr h
theorem n173 : Tryz.prog.funcs[173]? = some Tryz.f173 := by kernel_rfl
theorem e173 : entB Tryz.prog 173 = true := by kernel_rfl
theorem o173 : bodyOk (anL [(4, [0, 0, 2, 6, 14, 1, 63]), (16, [0, 0, 2, 6, 14, 1, 63]), (25, [0, 0, 2, 6, 14, 1, 63])]) Tryz.f173 = true := by kernel_rfl
theorem w173 {ct : Ct} (ow : Nat → Bool) (ad : List Adj) {code : Code} (hb : Tryz.f173.body = some code) (hc : CtOk pg ct) {args : List V} {r : V} (ha : Nat.ble args.length 153 = true) (hr : r.noId = true) (h : exec ⟨pg, ct, ow, 153, anL [(4, [0, 0, 2, 6, 14, 1, 63]), (16, [0, 0, 2, 6, 14, 1, 63]), (25, [0, 0, 2, 6, 14, 1, 63])]⟩ code ⟨argE args, hOf []⟩ (PostF pg.prog ad [.cell 2 24, .tmp 3] r [])) : PCall pg 173 args r := pcall_inF ad hc fol 173 n173 hb rfl e173 rfl (bodyOk_at o173 hb rfl) ha hr h
theorem n174 : Tryz.prog.funcs[174]? = some Tryz.f174 := by kernel_rfl
theorem e174 : entB Tryz.prog 174 = true := by kernel_rfl
theorem o174 : bodyOk (anL []) Tryz.f174 = true := by kernel_rfl
theorem w174 {ct : Ct} (ow : Nat → Bool) (ad : List Adj) {code : Code} (hb : Tryz.f174.body = some code) (hc : CtOk pg ct) {args : List V} {r : V} (ha : Nat.ble args.length 17 = true) (hr : r.noId = true) (h : exec ⟨pg, ct, ow, 17, anL []⟩ code ⟨argE args, hOf []⟩ (PostF pg.prog ad [.tmp 2] r [])) : PCall pg 174 args r := pcall_inF ad hc fol 174 n174 hb rfl e174 rfl (bodyOk_at o174 hb rfl) ha hr h
theorem n175 : Tryz.prog.funcs[175]? = some Tryz.f175 := by kernel_rfl
theorem e175 : entB Tryz.prog 175 = true := by kernel_rfl
theorem o175 : bodyOk (anL []) Tryz.f175 = true := by kernel_rfl
theorem w175 {ct : Ct} (ow : Nat → Bool) (ad : List Adj) {code : Code} (hb : Tryz.f175.body = some code) (hc : CtOk pg ct) {args : List V} {r : V} (ha : Nat.ble args.length 21 = true) (hr : r.noId = true) (h : exec ⟨pg, ct, ow, 21, anL []⟩ code ⟨argE args, hOf []⟩ (PostF pg.prog ad [.tmp 2] r [])) : PCall pg 175 args r := pcall_inF ad hc fol 175 n175 hb rfl e175 rfl (bodyOk_at o175 hb rfl) ha hr h
theorem n176 : Tryz.prog.funcs[176]? = some Tryz.f176 := by kernel_rfl
theorem e176 : entB Tryz.prog 176 = true := by kernel_rfl
theorem o176 : bodyOk (anL []) Tryz.f176 = true := by kernel_rfl
theorem fw176 {ct : Ct} (ow : Nat → Bool) (ad : List Adj) {code : Code} (hb : Tryz.f176.body = some code) (hc : CtOk pg ct) {args : List V} {hl hl' : HL} {r : V} (ha : Nat.ble args.length 58 = true) (hlo : ∀ p ∈ hl, 9000 ≤ p.1) (hin : hlIn (idsIn hl) hl') (hr : V.menIn (idsIn hl) r = true) (h : exec ⟨pg, ct, ow, 58, anL []⟩ code ⟨argE args, hOf hl⟩ (PostF pg.prog ad [] r hl')) : FCall pg 176 args hl r hl' := fcall_inF ad hc fol 176 n176 hb rfl e176 rfl (bodyOk_at o176 hb rfl) ha hlo hin hr h
theorem n178 : Tryz.prog.funcs[178]? = some Tryz.f178 := by kernel_rfl
theorem e178 : entB Tryz.prog 178 = true := by kernel_rfl
theorem o178 : bodyOk (anL []) Tryz.f178 = true := by kernel_rfl
theorem w178 {ct : Ct} (ow : Nat → Bool) (ad : List Adj) {code : Code} (hb : Tryz.f178.body = some code) (hc : CtOk pg ct) {args : List V} {r : V} (ha : Nat.ble args.length 17 = true) (hr : r.noId = true) (h : exec ⟨pg, ct, ow, 17, anL []⟩ code ⟨argE args, hOf []⟩ (PostF pg.prog ad [.tmp 2] r [])) : PCall pg 178 args r := pcall_inF ad hc fol 178 n178 hb rfl e178 rfl (bodyOk_at o178 hb rfl) ha hr h
theorem n179 : Tryz.prog.funcs[179]? = some Tryz.f179 := by kernel_rfl
theorem e179 : entB Tryz.prog 179 = true := by kernel_rfl
theorem o179 : bodyOk (anL []) Tryz.f179 = true := by kernel_rfl
theorem w179 {ct : Ct} (ow : Nat → Bool) (ad : List Adj) {code : Code} (hb : Tryz.f179.body = some code) (hc : CtOk pg ct) {args : List V} {r : V} (ha : Nat.ble args.length 18 = true) (hr : r.noId = true) (h : exec ⟨pg, ct, ow, 18, anL []⟩ code ⟨argE args, hOf []⟩ (PostF pg.prog ad [.tmp 2] r [])) : PCall pg 179 args r := pcall_inF ad hc fol 179 n179 hb rfl e179 rfl (bodyOk_at o179 hb rfl) ha hr h
theorem n180 : Tryz.prog.funcs[180]? = some Tryz.f180 := by kernel_rfl
theorem e180 : entB Tryz.prog 180 = true := by kernel_rfl
theorem o180 : bodyOk (anL []) Tryz.f180 = true := by kernel_rfl
theorem w180 {ct : Ct} (ow : Nat → Bool) (ad : List Adj) {code : Code} (hb : Tryz.f180.body = some code) (hc : CtOk pg ct) {args : List V} {r : V} (ha : Nat.ble args.length 21 = true) (hr : r.noId = true) (h : exec ⟨pg, ct, ow, 21, anL []⟩ code ⟨argE args, hOf []⟩ (PostF pg.prog ad [.tmp 2] r [])) : PCall pg 180 args r := pcall_inF ad hc fol 180 n180 hb rfl e180 rfl (bodyOk_at o180 hb rfl) ha hr h
theorem n186 : Tryz.prog.funcs[186]? = some Tryz.f186 := by kernel_rfl
theorem e186 : entB Tryz.prog 186 = true := by kernel_rfl
theorem o186 : bodyOk (anL []) Tryz.f186 = true := by kernel_rfl
theorem w186 {ct : Ct} (ow : Nat → Bool) (ad : List Adj) {code : Code} (hb : Tryz.f186.body = some code) (hc : CtOk pg ct) {args : List V} {r : V} (ha : Nat.ble args.length 26 = true) (hr : r.noId = true) (h : exec ⟨pg, ct, ow, 26, anL []⟩ code ⟨argE args, hOf []⟩ (PostF pg.prog ad [.tmp 4] r [])) : PCall pg 186 args r := pcall_inF ad hc fol 186 n186 hb rfl e186 rfl (bodyOk_at o186 hb rfl) ha hr h
theorem n194 : Tryz.prog.funcs[194]? = some Tryz.f194 := by kernel_rfl
theorem e194 : entB Tryz.prog 194 = true := by kernel_rfl
theorem o194 : bodyOk (anL [(7, [0, 0, 2, 7, 15, 31, 0, 0, 128, 448, 991, 2047, 4095]), (10, [0, 0, 2, 6, 0, 16, 48, 126, 255, 511])]) Tryz.f194 = true := by kernel_rfl
theorem w194 {ct : Ct} (ow : Nat → Bool) (ad : List Adj) {code : Code} (hb : Tryz.f194.body = some code) (hc : CtOk pg ct) {args : List V} {r : V} (ha : Nat.ble args.length 73 = true) (hr : r.noId = true) (h : exec ⟨pg, ct, ow, 73, anL [(7, [0, 0, 2, 7, 15, 31, 0, 0, 128, 448, 991, 2047, 4095]), (10, [0, 0, 2, 6, 0, 16, 48, 126, 255, 511])]⟩ code ⟨argE args, hOf []⟩ (PostF pg.prog ad [.tmp 2] r [])) : PCall pg 194 args r := pcall_inF ad hc fol 194 n194 hb rfl e194 rfl (bodyOk_at o194 hb rfl) ha hr h
theorem n205 : Tryz.prog.funcs[205]? = some Tryz.f205 := by kernel_rfl
theorem e205 : entB Tryz.prog 205 = true := by kernel_rfl
theorem o205 : bodyOk (anL []) Tryz.f205 = true := by kernel_rfl
theorem fw205 {ct : Ct} (ow : Nat → Bool) (ad : List Adj) {code : Code} (hb : Tryz.f205.body = some code) (hc : CtOk pg ct) {args : List V} {hl hl' : HL} {r : V} (ha : Nat.ble args.length 60 = true) (hlo : ∀ p ∈ hl, 9000 ≤ p.1) (hin : hlIn (idsIn hl) hl') (hr : V.menIn (idsIn hl) r = true) (h : exec ⟨pg, ct, ow, 60, anL []⟩ code ⟨argE args, hOf hl⟩ (PostF pg.prog ad [.tmp 2] r hl')) : FCall pg 205 args hl r hl' := fcall_inF ad hc fol 205 n205 hb rfl e205 rfl (bodyOk_at o205 hb rfl) ha hlo hin hr h
theorem n206 : Tryz.prog.funcs[206]? = some Tryz.f206 := by kernel_rfl
theorem e206 : entB Tryz.prog 206 = true := by kernel_rfl
theorem o206 : bodyOk (anL [(2, [0, 1, 3, 7, 0, 16, 48, 112, 240, 511, 1023, 2047, 4095, 8191, 16383, 2047, 34815, 100351, 231423, 524287, 1048575, 2097151, 4194303, 8388607, 16777215, 33554431, 67108863, 134217727, 268435455, 33554431, 570425343, 1644167167, 3791650815, 8589934591, 17179869183, 34359738367, 68719476735, 137438953471, 274877906943, 549755813887, 68719476735, 1168231104511, 3367254360063, 7765300871167, 17592186044415, 35184372088831, 70368744177663, 140737488355327, 281474976710655, 562949953421311, 1125899906842623, 2251799813685247, 281474976710655, 4785074604081151, 13792273858822143, 31806672368304127, 72057594037927935, 144115188075855871, 288230376151711743, 576460752303423487, 1152921504606846975, 2305843009213693951]), (4, [0, 1, 3, 7, 0, 0, 32, 96, 224, 511, 1023])]) Tryz.f206 = true := by kernel_rfl
theorem fw206 {ct : Ct} (ow : Nat → Bool) (ad : List Adj) {code : Code} (hb : Tryz.f206.body = some code) (hc : CtOk pg ct) {args : List V} {hl hl' : HL} {r : V} (ha : Nat.ble args.length 89 = true) (hlo : ∀ p ∈ hl, 9000 ≤ p.1) (hin : hlIn (idsIn hl) hl') (hr : V.menIn (idsIn hl) r = true) (h : exec ⟨pg, ct, ow, 89, anL [(2, [0, 1, 3, 7, 0, 16, 48, 112, 240, 511, 1023, 2047, 4095, 8191, 16383, 2047, 34815, 100351, 231423, 524287, 1048575, 2097151, 4194303, 8388607, 16777215, 33554431, 67108863, 134217727, 268435455, 33554431, 570425343, 1644167167, 3791650815, 8589934591, 17179869183, 34359738367, 68719476735, 137438953471, 274877906943, 549755813887, 68719476735, 1168231104511, 3367254360063, 7765300871167, 17592186044415, 35184372088831, 70368744177663, 140737488355327, 281474976710655, 562949953421311, 1125899906842623, 2251799813685247, 281474976710655, 4785074604081151, 13792273858822143, 31806672368304127, 72057594037927935, 144115188075855871, 288230376151711743, 576460752303423487, 1152921504606846975, 2305843009213693951]), (4, [0, 1, 3, 7, 0, 0, 32, 96, 224, 511, 1023])]⟩ code ⟨argE args, hOf hl⟩ (PostF pg.prog ad [.tmp 4] r hl')) : FCall pg 206 args hl r hl' := fcall_inF ad hc fol 206 n206 hb rfl e206 rfl (bodyOk_at o206 hb rfl) ha hlo hin hr h
theorem n207 : Tryz.prog.funcs[207]? = some Tryz.f207 := by kernel_rfl
theorem e207 : entB Tryz.prog 207 = true := by kernel_rfl
theorem o207 : bodyOk (anL []) Tryz.f207 = true := by kernel_rfl
theorem fw207 {ct : Ct} (ow : Nat → Bool) (ad : List Adj) {code : Code} (hb : Tryz.f207.body = some code) (hc : CtOk pg ct) {args : List V} {hl hl' : HL} {r : V} (ha : Nat.ble args.length 33 = true) (hlo : ∀ p ∈ hl, 9000 ≤ p.1) (hin : hlIn (idsIn hl) hl') (hr : V.menIn (idsIn hl) r = true) (h : exec ⟨pg, ct, ow, 33, anL []⟩ code ⟨argE args, hOf hl⟩ (PostF pg.prog ad [.tmp 4] r hl')) : FCall pg 207 args hl r hl' := fcall_inF ad hc fol 207 n207 hb rfl e207 rfl (bodyOk_at o207 hb rfl) ha hlo hin hr h
theorem n208 : Tryz.prog.funcs[208]? = some Tryz.f208 := by kernel_rfl
theorem e208 : entB Tryz.prog 208 = true := by kernel_rfl
theorem o208 : bodyOk (anL [(3, [0, 0, 0, 6, 0, 0, 0, 96, 0, 0, 0, 1536, 3840, 7936, 0, 0, 0, 98304, 245760, 507904, 1048335, 2096911, 4194303, 8388607])]) Tryz.f208 = true := by kernel_rfl
theorem fw208 {ct : Ct} (ow : Nat → Bool) (ad : List Adj) {code : Code} (hb : Tryz.f208.body = some code) (hc : CtOk pg ct) {args : List V} {hl hl' : HL} {r : V} (ha : Nat.ble args.length 38 = true) (hlo : ∀ p ∈ hl, 9000 ≤ p.1) (hin : hlIn (idsIn hl) hl') (hr : V.menIn (idsIn hl) r = true) (h : exec ⟨pg, ct, ow, 38, anL [(3, [0, 0, 0, 6, 0, 0, 0, 96, 0, 0, 0, 1536, 3840, 7936, 0, 0, 0, 98304, 245760, 507904, 1048335, 2096911, 4194303, 8388607])]⟩ code ⟨argE args, hOf hl⟩ (PostF pg.prog ad [] r hl')) : FCall pg 208 args hl r hl' := fcall_inF ad hc fol 208 n208 hb rfl e208 rfl (bodyOk_at o208 hb rfl) ha hlo hin hr h
theorem n214 : Tryz.prog.funcs[214]? = some Tryz.f214 := by kernel_rfl
theorem e214 : entB Tryz.prog 214 = true := by kernel_rfl
theorem o214 : bodyOk (anL []) Tryz.f214 = true := by kernel_rfl
theorem w214 {ct : Ct} (ow : Nat → Bool) (ad : List Adj) {code : Code} (hb : Tryz.f214.body = some code) (hc : CtOk pg ct) {args : List V} {r : V} (ha : Nat.ble args.length 17 = true) (hr : r.noId = true) (h : exec ⟨pg, ct, ow, 17, anL []⟩ code ⟨argE args, hOf []⟩ (PostF pg.prog ad [.tmp 2] r [])) : PCall pg 214 args r := pcall_inF ad hc fol 214 n214 hb rfl e214 rfl (bodyOk_at o214 hb rfl) ha hr h
theorem n223 : Tryz.prog.funcs[223]? = some Tryz.f223 := by kernel_rfl
theorem e223 : entB Tryz.prog 223 = true := by kernel_rfl
theorem o223 : bodyOk (anL [(4, [0, 0, 3, 0, 8, 31, 63, 127, 127, 127, 895, 127, 127, 6271, 14463, 32767, 65535, 127, 127, 127, 524415, 1966207, 4194303, 8388607])]) Tryz.f223 = true := by kernel_rfl
theorem w223 {ct : Ct} (ow : Nat → Bool) (ad : List Adj) {code : Code} (hb : Tryz.f223.body = some code) (hc : CtOk pg ct) {args : List V} {r : V} (ha : Nat.ble args.length 41 = true) (hr : r.noId = true) (h : exec ⟨pg, ct, ow, 41, anL [(4, [0, 0, 3, 0, 8, 31, 63, 127, 127, 127, 895, 127, 127, 6271, 14463, 32767, 65535, 127, 127, 127, 524415, 1966207, 4194303, 8388607])]⟩ code ⟨argE args, hOf []⟩ (PostF pg.prog ad [.tmp 6] r [])) : PCall pg 223 args r := pcall_inF ad hc fol 223 n223 hb rfl e223 rfl (bodyOk_at o223 hb rfl) ha hr h
theorem n224 : Tryz.prog.funcs[224]? = some Tryz.f224 := by kernel_rfl
theorem e224 : entB Tryz.prog 224 = true := by kernel_rfl
theorem o224 : bodyOk (anL []) Tryz.f224 = true := by kernel_rfl
theorem fw224 {ct : Ct} (ow : Nat → Bool) (ad : List Adj) {code : Code} (hb : Tryz.f224.body = some code) (hc : CtOk pg ct) {args : List V} {hl hl' : HL} {r : V} (ha : Nat.ble args.length 13 = true) (hlo : ∀ p ∈ hl, 9000 ≤ p.1) (hin : hlIn (idsIn hl) hl') (hr : V.menIn (idsIn hl) r = true) (h : exec ⟨pg, ct, ow, 13, anL []⟩ code ⟨argE args, hOf hl⟩ (PostF pg.prog ad [] r hl')) : FCall pg 224 args hl r hl' := fcall_inF ad hc fol 224 n224 hb rfl e224 rfl (bodyOk_at o224 hb rfl) ha hlo hin hr h
theorem n225 : Tryz.prog.funcs[225]? = some Tryz.f225 := by kernel_rfl
theorem e225 : entB Tryz.prog 225 = true := by kernel_rfl
theorem o225 : bodyOk (anL [(2, [0, 1, 3, 7, 0, 16, 48, 112, 240, 511, 1023, 2047, 2047, 6143, 14335, 30719, 2047, 67583, 198655, 460799, 1046527, 2097151, 4194303, 8388607]), (4, [0, 1, 3, 7, 0, 0, 32, 96, 224, 511, 1023])]) Tryz.f225 = true := by kernel_rfl
theorem fw225 {ct : Ct} (ow : Nat → Bool) (ad : List Adj) {code : Code} (hb : Tryz.f225.body = some code) (hc : CtOk pg ct) {args : List V} {hl hl' : HL} {r : V} (ha : Nat.ble args.length 51 = true) (hlo : ∀ p ∈ hl, 9000 ≤ p.1) (hin : hlIn (idsIn hl) hl') (hr : V.menIn (idsIn hl) r = true) (h : exec ⟨pg, ct, ow, 51, anL [(2, [0, 1, 3, 7, 0, 16, 48, 112, 240, 511, 1023, 2047, 2047, 6143, 14335, 30719, 2047, 67583, 198655, 460799, 1046527, 2097151, 4194303, 8388607]), (4, [0, 1, 3, 7, 0, 0, 32, 96, 224, 511, 1023])]⟩ code ⟨argE args, hOf hl⟩ (PostF pg.prog ad [.tmp 4] r hl')) : FCall pg 225 args hl r hl' := fcall_inF ad hc fol 225 n225 hb rfl e225 rfl (bodyOk_at o225 hb rfl) ha hlo hin hr h
end Go.Abs
