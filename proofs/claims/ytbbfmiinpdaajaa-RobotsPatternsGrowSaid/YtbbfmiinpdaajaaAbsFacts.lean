import Derived.Test.YtbbfmiinpdaajaaAbsA35
import Derived.Test.YtbbfmiinpdaajaaRows
/- facts of this seat's program: its types and functions, by their numbers -/
namespace Go.Abs
open Go Go.Proofs
set_option maxRecDepth 100000
theorem fol : Try.prog.follows .mixedOrders = true := by kernel_rfl
@[push_cast] theorem t1 : ti Try.prog 1 = ⟨.func, 1, 8, some (.con .nilFunc)⟩ := by kernel_rfl
@[push_cast] theorem t2 : ti Try.prog 2 = ⟨(.int .i64), 1, 8, some (.int .i64 0)⟩ := by kernel_rfl
@[push_cast] theorem t3 : ti Try.prog 3 = ⟨(.int .i64), 1, 8, some (.int .i64 0)⟩ := by kernel_rfl
@[push_cast] theorem t4 : ti Try.prog 4 = ⟨.bool, 1, 1, some (.bool false)⟩ := by kernel_rfl
@[push_cast] theorem t5 : ti Try.prog 5 = ⟨(.int .u8), 1, 1, some (.int .u8 0)⟩ := by kernel_rfl
@[push_cast] theorem t6 : ti Try.prog 6 = ⟨(.int .u8), 1, 1, some (.int .u8 0)⟩ := by kernel_rfl
@[push_cast] theorem t7 : ti Try.prog 7 = ⟨(.struct [(0, 2), (1, 3), (2, 4), (3, 6)]), 4, 24, some (.agg [(.int .i64 0), (.int .i64 0), (.bool false), (.int .u8 0)])⟩ := by kernel_rfl
@[push_cast] theorem t8 : ti Try.prog 8 = ⟨(.struct [(0, 2), (1, 3), (2, 4), (3, 6)]), 4, 24, some (.agg [(.int .i64 0), (.int .i64 0), (.bool false), (.int .u8 0)])⟩ := by kernel_rfl
@[push_cast] theorem t9 : ti Try.prog 9 = ⟨.str, 1, 16, some (.str [])⟩ := by kernel_rfl
@[push_cast] theorem t10 : ti Try.prog 10 = ⟨.str, 1, 16, some (.str [])⟩ := by kernel_rfl
@[push_cast] theorem t11 : ti Try.prog 11 = ⟨.str, 1, 16, some (.str [])⟩ := by kernel_rfl
@[push_cast] theorem t12 : ti Try.prog 12 = ⟨(.int .u64), 1, 8, some (.int .u64 0)⟩ := by kernel_rfl
@[push_cast] theorem t13 : ti Try.prog 13 = ⟨(.struct [(0, 9), (1, 12)]), 2, 24, some (.agg [(.str []), (.int .u64 0)])⟩ := by kernel_rfl
@[push_cast] theorem t14 : ti Try.prog 14 = ⟨(.struct [(0, 9), (1, 12)]), 2, 24, some (.agg [(.str []), (.int .u64 0)])⟩ := by kernel_rfl
@[push_cast] theorem t15 : ti Try.prog 15 = ⟨(.ptr 45), 1, 8, some (.con (.pointer none))⟩ := by kernel_rfl
@[push_cast] theorem t16 : ti Try.prog 16 = ⟨(.ptr 48), 1, 8, some (.con (.pointer none))⟩ := by kernel_rfl
@[push_cast] theorem t17 : ti Try.prog 17 = ⟨(.ptr 58), 1, 8, some (.con (.pointer none))⟩ := by kernel_rfl
@[push_cast] theorem t18 : ti Try.prog 18 = ⟨(.struct [(0, 17)]), 1, 8, some (.agg [(.con (.pointer none))])⟩ := by kernel_rfl
@[push_cast] theorem t19 : ti Try.prog 19 = ⟨(.struct [(0, 17)]), 1, 8, some (.agg [(.con (.pointer none))])⟩ := by kernel_rfl
@[push_cast] theorem t20 : ti Try.prog 20 = ⟨.iface, 1, 16, some (.con .nilIface)⟩ := by kernel_rfl
@[push_cast] theorem t21 : ti Try.prog 21 = ⟨(.int .i32), 1, 4, some (.int .i32 0)⟩ := by kernel_rfl
@[push_cast] theorem t22 : ti Try.prog 22 = ⟨(.int .i64), 1, 8, some (.int .i64 0)⟩ := by kernel_rfl
@[push_cast] theorem t24 : ti Try.prog 24 = ⟨.func, 1, 8, some (.con .nilFunc)⟩ := by kernel_rfl
@[push_cast] theorem t25 : ti Try.prog 25 = ⟨.func, 1, 8, some (.con .nilFunc)⟩ := by kernel_rfl
@[push_cast] theorem t26 : ti Try.prog 26 = ⟨.func, 1, 8, some (.con .nilFunc)⟩ := by kernel_rfl
@[push_cast] theorem t27 : ti Try.prog 27 = ⟨.func, 1, 8, some (.con .nilFunc)⟩ := by kernel_rfl
@[push_cast] theorem t28 : ti Try.prog 28 = ⟨.func, 1, 8, some (.con .nilFunc)⟩ := by kernel_rfl
@[push_cast] theorem t30 : ti Try.prog 30 = ⟨.func, 1, 8, some (.con .nilFunc)⟩ := by kernel_rfl
@[push_cast] theorem t31 : ti Try.prog 31 = ⟨.func, 1, 8, some (.con .nilFunc)⟩ := by kernel_rfl
@[push_cast] theorem t32 : ti Try.prog 32 = ⟨.func, 1, 8, some (.con .nilFunc)⟩ := by kernel_rfl
@[push_cast] theorem t33 : ti Try.prog 33 = ⟨.func, 1, 8, some (.con .nilFunc)⟩ := by kernel_rfl
@[push_cast] theorem t34 : ti Try.prog 34 = ⟨(.slice 4), 1, 24, some .nilsl⟩ := by kernel_rfl
@[push_cast] theorem t35 : ti Try.prog 35 = ⟨.func, 1, 8, some (.con .nilFunc)⟩ := by kernel_rfl
@[push_cast] theorem t36 : ti Try.prog 36 = ⟨.func, 1, 8, some (.con .nilFunc)⟩ := by kernel_rfl
@[push_cast] theorem t37 : ti Try.prog 37 = ⟨.func, 1, 8, some (.con .nilFunc)⟩ := by kernel_rfl
@[push_cast] theorem t38 : ti Try.prog 38 = ⟨.func, 1, 8, some (.con .nilFunc)⟩ := by kernel_rfl
@[push_cast] theorem t39 : ti Try.prog 39 = ⟨(.slice 5), 1, 24, some .nilsl⟩ := by kernel_rfl
@[push_cast] theorem t40 : ti Try.prog 40 = ⟨.func, 1, 8, some (.con .nilFunc)⟩ := by kernel_rfl
@[push_cast] theorem t41 : ti Try.prog 41 = ⟨.func, 1, 8, some (.con .nilFunc)⟩ := by kernel_rfl
@[push_cast] theorem t42 : ti Try.prog 42 = ⟨(.int .u64), 1, 8, some (.int .u64 0)⟩ := by kernel_rfl
@[push_cast] theorem t43 : ti Try.prog 43 = ⟨.func, 1, 8, some (.con .nilFunc)⟩ := by kernel_rfl
@[push_cast] theorem t44 : ti Try.prog 44 = ⟨(.struct [(0, 17), (1, 17), (2, 17), (3, 9)]), 4, 40, some (.agg [(.con (.pointer none)), (.con (.pointer none)), (.con (.pointer none)), (.str [])])⟩ := by kernel_rfl
@[push_cast] theorem t45 : ti Try.prog 45 = ⟨(.struct [(0, 17), (1, 17), (2, 17), (3, 9)]), 4, 40, some (.agg [(.con (.pointer none)), (.con (.pointer none)), (.con (.pointer none)), (.str [])])⟩ := by kernel_rfl
@[push_cast] theorem t46 : ti Try.prog 46 = ⟨(.arr 0 16), 0, 0, some (.agg [])⟩ := by kernel_rfl
@[push_cast] theorem t47 : ti Try.prog 47 = ⟨(.struct [(0, 46)]), 0, 0, some (.agg [])⟩ := by kernel_rfl
@[push_cast] theorem t48 : ti Try.prog 48 = ⟨(.struct [(0, 46)]), 0, 0, some (.agg [])⟩ := by kernel_rfl
@[push_cast] theorem t49 : ti Try.prog 49 = ⟨.func, 1, 8, some (.con .nilFunc)⟩ := by kernel_rfl
@[push_cast] theorem t50 : ti Try.prog 50 = ⟨(.int .u32), 1, 4, some (.int .u32 0)⟩ := by kernel_rfl
@[push_cast] theorem t51 : ti Try.prog 51 = ⟨(.int .u8), 1, 1, some (.int .u8 0)⟩ := by kernel_rfl
@[push_cast] theorem t52 : ti Try.prog 52 = ⟨(.int .u8), 1, 1, some (.int .u8 0)⟩ := by kernel_rfl
@[push_cast] theorem t53 : ti Try.prog 53 = ⟨.func, 1, 8, some (.con .nilFunc)⟩ := by kernel_rfl
@[push_cast] theorem t54 : ti Try.prog 54 = ⟨(.ptr 5), 1, 8, some (.con (.pointer none))⟩ := by kernel_rfl
@[push_cast] theorem t55 : ti Try.prog 55 = ⟨(.int .i32), 1, 4, some (.int .i32 0)⟩ := by kernel_rfl
@[push_cast] theorem t56 : ti Try.prog 56 = ⟨(.int .i32), 1, 4, some (.int .i32 0)⟩ := by kernel_rfl
@[push_cast] theorem t57 : ti Try.prog 57 = ⟨(.struct [(0, 12), (1, 12), (2, 50), (3, 51), (4, 5), (5, 5), (6, 52), (7, 53), (8, 54), (9, 55), (10, 56)]), 11, 48, some (.agg [(.int .u64 0), (.int .u64 0), (.int .u32 0), (.int .u8 0), (.int .u8 0), (.int .u8 0), (.int .u8 0), (.con .nilFunc), (.con (.pointer none)), (.int .i32 0), (.int .i32 0)])⟩ := by kernel_rfl
@[push_cast] theorem t58 : ti Try.prog 58 = ⟨(.struct [(0, 12), (1, 12), (2, 50), (3, 51), (4, 5), (5, 5), (6, 52), (7, 53), (8, 54), (9, 55), (10, 56)]), 11, 48, some (.agg [(.int .u64 0), (.int .u64 0), (.int .u32 0), (.int .u8 0), (.int .u8 0), (.int .u8 0), (.int .u8 0), (.con .nilFunc), (.con (.pointer none)), (.int .i32 0), (.int .i32 0)])⟩ := by kernel_rfl
@[push_cast] theorem t59 : ti Try.prog 59 = ⟨.other, 1, 8, some (.con (.pointer none))⟩ := by kernel_rfl
theorem n2 : Try.prog.funcs[2]? = some Try.f2 := by kernel_rfl
theorem e2 : entB Try.prog 2 = true := by kernel_rfl
theorem o2 : bodyOk (anL []) Try.f2 = true := by kernel_rfl
theorem w2 {ct : Ct} (ow : Nat → Bool) {code : Code} (hb : Try.f2.body = some code) (hc : CtOk Try.prog ct) {args : List V} {r : V} (ha : Nat.ble args.length 1 = true) (hr : r.noId = true) (h : exec ⟨Try.prog, ct, ow, 1, anL []⟩ code ⟨argE args, hOf []⟩ (PostL [] r)) : PCall Try.prog 2 args r := pcall_in hc fol 2 n2 hb rfl e2 rfl (bodyOk_at o2 hb rfl) ha hr h
theorem n3 : Try.prog.funcs[3]? = some Try.f3 := by kernel_rfl
theorem e3 : entB Try.prog 3 = true := by kernel_rfl
theorem o3 : bodyOk (anL []) Try.f3 = true := by kernel_rfl
theorem w3 {ct : Ct} (ow : Nat → Bool) {code : Code} (hb : Try.f3.body = some code) (hc : CtOk Try.prog ct) {args : List V} {r : V} (ha : Nat.ble args.length 32 = true) (hr : r.noId = true) (h : exec ⟨Try.prog, ct, ow, 32, anL []⟩ code ⟨argE args, hOf []⟩ (PostL [.tmp 4] r)) : PCall Try.prog 3 args r := pcall_in hc fol 3 n3 hb rfl e3 rfl (bodyOk_at o3 hb rfl) ha hr h
theorem n4 : Try.prog.funcs[4]? = some Try.f4 := by kernel_rfl
theorem e4 : entB Try.prog 4 = true := by kernel_rfl
theorem o4 : bodyOk (anL []) Try.f4 = true := by kernel_rfl
theorem w4 {ct : Ct} (ow : Nat → Bool) {code : Code} (hb : Try.f4.body = some code) (hc : CtOk Try.prog ct) {args : List V} {r : V} (ha : Nat.ble args.length 62 = true) (hr : r.noId = true) (h : exec ⟨Try.prog, ct, ow, 62, anL []⟩ code ⟨argE args, hOf []⟩ (PostL [.tmp 6] r)) : PCall Try.prog 4 args r := pcall_in hc fol 4 n4 hb rfl e4 rfl (bodyOk_at o4 hb rfl) ha hr h
theorem n5 : Try.prog.funcs[5]? = some Try.f5 := by kernel_rfl
theorem e5 : entB Try.prog 5 = true := by kernel_rfl
theorem o5 : bodyOk (anL []) Try.f5 = true := by kernel_rfl
theorem w5 {ct : Ct} (ow : Nat → Bool) {code : Code} (hb : Try.f5.body = some code) (hc : CtOk Try.prog ct) {args : List V} {r : V} (ha : Nat.ble args.length 15 = true) (hr : r.noId = true) (h : exec ⟨Try.prog, ct, ow, 15, anL []⟩ code ⟨argE args, hOf []⟩ (PostL [.tmp 4, .tmp 5] r)) : PCall Try.prog 5 args r := pcall_in hc fol 5 n5 hb rfl e5 rfl (bodyOk_at o5 hb rfl) ha hr h
theorem n6 : Try.prog.funcs[6]? = some Try.f6 := by kernel_rfl
theorem e6 : entB Try.prog 6 = true := by kernel_rfl
theorem o6 : bodyOk (anL []) Try.f6 = true := by kernel_rfl
theorem w6 {ct : Ct} (ow : Nat → Bool) {code : Code} (hb : Try.f6.body = some code) (hc : CtOk Try.prog ct) {args : List V} {r : V} (ha : Nat.ble args.length 15 = true) (hr : r.noId = true) (h : exec ⟨Try.prog, ct, ow, 15, anL []⟩ code ⟨argE args, hOf []⟩ (PostL [.tmp 4, .tmp 5] r)) : PCall Try.prog 6 args r := pcall_in hc fol 6 n6 hb rfl e6 rfl (bodyOk_at o6 hb rfl) ha hr h
theorem n7 : Try.prog.funcs[7]? = some Try.f7 := by kernel_rfl
theorem e7 : entB Try.prog 7 = true := by kernel_rfl
theorem o7 : bodyOk (anL []) Try.f7 = true := by kernel_rfl
theorem w7 {ct : Ct} (ow : Nat → Bool) {code : Code} (hb : Try.f7.body = some code) (hc : CtOk Try.prog ct) {args : List V} {r : V} (ha : Nat.ble args.length 12 = true) (hr : r.noId = true) (h : exec ⟨Try.prog, ct, ow, 12, anL []⟩ code ⟨argE args, hOf []⟩ (PostL [.tmp 0] r)) : PCall Try.prog 7 args r := pcall_in hc fol 7 n7 hb rfl e7 rfl (bodyOk_at o7 hb rfl) ha hr h
theorem n8 : Try.prog.funcs[8]? = some Try.f8 := by kernel_rfl
theorem e8 : entB Try.prog 8 = true := by kernel_rfl
theorem o8 : bodyOk (anL []) Try.f8 = true := by kernel_rfl
theorem w8 {ct : Ct} (ow : Nat → Bool) {code : Code} (hb : Try.f8.body = some code) (hc : CtOk Try.prog ct) {args : List V} {r : V} (ha : Nat.ble args.length 57 = true) (hr : r.noId = true) (h : exec ⟨Try.prog, ct, ow, 57, anL []⟩ code ⟨argE args, hOf []⟩ (PostL [.tmp 2] r)) : PCall Try.prog 8 args r := pcall_in hc fol 8 n8 hb rfl e8 rfl (bodyOk_at o8 hb rfl) ha hr h
theorem n9 : Try.prog.funcs[9]? = some Try.f9 := by kernel_rfl
theorem e9 : entB Try.prog 9 = true := by kernel_rfl
theorem o9 : bodyOk (anL []) Try.f9 = true := by kernel_rfl
theorem w9 {ct : Ct} (ow : Nat → Bool) {code : Code} (hb : Try.f9.body = some code) (hc : CtOk Try.prog ct) {args : List V} {r : V} (ha : Nat.ble args.length 17 = true) (hr : r.noId = true) (h : exec ⟨Try.prog, ct, ow, 17, anL []⟩ code ⟨argE args, hOf []⟩ (PostL [.tmp 4] r)) : PCall Try.prog 9 args r := pcall_in hc fol 9 n9 hb rfl e9 rfl (bodyOk_at o9 hb rfl) ha hr h
theorem n10 : Try.prog.funcs[10]? = some Try.f10 := by kernel_rfl
theorem e10 : entB Try.prog 10 = true := by kernel_rfl
theorem o10 : bodyOk (anL []) Try.f10 = true := by kernel_rfl
theorem w10 {ct : Ct} (ow : Nat → Bool) {code : Code} (hb : Try.f10.body = some code) (hc : CtOk Try.prog ct) {args : List V} {r : V} (ha : Nat.ble args.length 53 = true) (hr : r.noId = true) (h : exec ⟨Try.prog, ct, ow, 53, anL []⟩ code ⟨argE args, hOf []⟩ (PostL [.tmp 2] r)) : PCall Try.prog 10 args r := pcall_in hc fol 10 n10 hb rfl e10 rfl (bodyOk_at o10 hb rfl) ha hr h
theorem n11 : Try.prog.funcs[11]? = some Try.f11 := by kernel_rfl
theorem e11 : entB Try.prog 11 = true := by kernel_rfl
theorem o11 : bodyOk (anL []) Try.f11 = true := by kernel_rfl
theorem w11 {ct : Ct} (ow : Nat → Bool) {code : Code} (hb : Try.f11.body = some code) (hc : CtOk Try.prog ct) {args : List V} {r : V} (ha : Nat.ble args.length 20 = true) (hr : r.noId = true) (h : exec ⟨Try.prog, ct, ow, 20, anL []⟩ code ⟨argE args, hOf []⟩ (PostL [.tmp 4] r)) : PCall Try.prog 11 args r := pcall_in hc fol 11 n11 hb rfl e11 rfl (bodyOk_at o11 hb rfl) ha hr h
theorem n12 : Try.prog.funcs[12]? = some Try.f12 := by kernel_rfl
theorem e12 : entB Try.prog 12 = true := by kernel_rfl
theorem o12 : bodyOk (anL []) Try.f12 = true := by kernel_rfl
theorem w12 {ct : Ct} (ow : Nat → Bool) {code : Code} (hb : Try.f12.body = some code) (hc : CtOk Try.prog ct) {args : List V} {r : V} (ha : Nat.ble args.length 11 = true) (hr : r.noId = true) (h : exec ⟨Try.prog, ct, ow, 11, anL []⟩ code ⟨argE args, hOf []⟩ (PostL [.tmp 4, .tmp 5] r)) : PCall Try.prog 12 args r := pcall_in hc fol 12 n12 hb rfl e12 rfl (bodyOk_at o12 hb rfl) ha hr h
theorem n13 : Try.prog.funcs[13]? = some Try.f13 := by kernel_rfl
theorem e13 : entB Try.prog 13 = true := by kernel_rfl
theorem o13 : bodyOk (anL [(15, [0, 0, 0, 0, 8, 28, 60, 124, 252, 252, 764, 2044, 252, 252, 12540, 32764, 65532, 131071, 262143])]) Try.f13 = true := by kernel_rfl
theorem w13 {ct : Ct} (ow : Nat → Bool) {code : Code} (hb : Try.f13.body = some code) (hc : CtOk Try.prog ct) {args : List V} {r : V} (ha : Nat.ble args.length 78 = true) (hr : r.noId = true) (h : exec ⟨Try.prog, ct, ow, 78, anL [(15, [0, 0, 0, 0, 8, 28, 60, 124, 252, 252, 764, 2044, 252, 252, 12540, 32764, 65532, 131071, 262143])]⟩ code ⟨argE args, hOf []⟩ (PostL [.tmp 6] r)) : PCall Try.prog 13 args r := pcall_in hc fol 13 n13 hb rfl e13 rfl (bodyOk_at o13 hb rfl) ha hr h
theorem n14 : Try.prog.funcs[14]? = some Try.f14 := by kernel_rfl
theorem e14 : entB Try.prog 14 = true := by kernel_rfl
theorem o14 : bodyOk (anL [(8, [0, 0, 0, 6, 15, 0, 0, 0, 128, 480, 992, 2047, 0, 0, 8192, 28672, 4095, 131071]), (4, [0, 0, 0, 4, 14, 31, 0, 0, 128, 448, 63, 2047])]) Try.f14 = true := by kernel_rfl
theorem w14 {ct : Ct} (ow : Nat → Bool) {code : Code} (hb : Try.f14.body = some code) (hc : CtOk Try.prog ct) {args : List V} {r : V} (ha : Nat.ble args.length 62 = true) (hr : r.noId = true) (h : exec ⟨Try.prog, ct, ow, 62, anL [(8, [0, 0, 0, 6, 15, 0, 0, 0, 128, 480, 992, 2047, 0, 0, 8192, 28672, 4095, 131071]), (4, [0, 0, 0, 4, 14, 31, 0, 0, 128, 448, 63, 2047])]⟩ code ⟨argE args, hOf []⟩ (PostL [.tmp 2] r)) : PCall Try.prog 14 args r := pcall_in hc fol 14 n14 hb rfl e14 rfl (bodyOk_at o14 hb rfl) ha hr h
theorem n15 : Try.prog.funcs[15]? = some Try.f15 := by kernel_rfl
theorem e15 : entB Try.prog 15 = true := by kernel_rfl
theorem o15 : bodyOk (anL []) Try.f15 = true := by kernel_rfl
theorem w15 {ct : Ct} (ow : Nat → Bool) {code : Code} (hb : Try.f15.body = some code) (hc : CtOk Try.prog ct) {args : List V} {r : V} (ha : Nat.ble args.length 15 = true) (hr : r.noId = true) (h : exec ⟨Try.prog, ct, ow, 15, anL []⟩ code ⟨argE args, hOf []⟩ (PostL [.tmp 6] r)) : PCall Try.prog 15 args r := pcall_in hc fol 15 n15 hb rfl e15 rfl (bodyOk_at o15 hb rfl) ha hr h
theorem n16 : Try.prog.funcs[16]? = some Try.f16 := by kernel_rfl
theorem e16 : entB Try.prog 16 = true := by kernel_rfl
theorem o16 : bodyOk (anL [(7, [0, 0, 2, 7, 15, 31, 0, 0, 128, 448, 991, 2047, 4095, 8191]), (10, [0, 0, 2, 0, 8, 24, 62, 126, 0, 256, 0, 1024, 3072, 7936, 16382, 32767, 65535])]) Try.f16 = true := by kernel_rfl
theorem w16 {ct : Ct} (ow : Nat → Bool) {code : Code} (hb : Try.f16.body = some code) (hc : CtOk Try.prog ct) {args : List V} {r : V} (ha : Nat.ble args.length 85 = true) (hr : r.noId = true) (h : exec ⟨Try.prog, ct, ow, 85, anL [(7, [0, 0, 2, 7, 15, 31, 0, 0, 128, 448, 991, 2047, 4095, 8191]), (10, [0, 0, 2, 0, 8, 24, 62, 126, 0, 256, 0, 1024, 3072, 7936, 16382, 32767, 65535])]⟩ code ⟨argE args, hOf []⟩ (PostL [.tmp 2] r)) : PCall Try.prog 16 args r := pcall_in hc fol 16 n16 hb rfl e16 rfl (bodyOk_at o16 hb rfl) ha hr h
theorem n17 : Try.prog.funcs[17]? = some Try.f17 := by kernel_rfl
theorem e17 : entB Try.prog 17 = true := by kernel_rfl
theorem o17 : bodyOk (anL [(16, [0, 0, 2, 7, 15, 31, 31, 127, 31, 31, 799, 2047, 4095])]) Try.f17 = true := by kernel_rfl
theorem w17 {ct : Ct} (ow : Nat → Bool) {code : Code} (hb : Try.f17.body = some code) (hc : CtOk Try.prog ct) {args : List V} {r : V} (ha : Nat.ble args.length 74 = true) (hr : r.noId = true) (h : exec ⟨Try.prog, ct, ow, 74, anL [(16, [0, 0, 2, 7, 15, 31, 31, 127, 31, 31, 799, 2047, 4095])]⟩ code ⟨argE args, hOf []⟩ (PostL [.tmp 4] r)) : PCall Try.prog 17 args r := pcall_in hc fol 17 n17 hb rfl e17 rfl (bodyOk_at o17 hb rfl) ha hr h
theorem n18 : Try.prog.funcs[18]? = some Try.f18 := by kernel_rfl
theorem e18 : entB Try.prog 18 = true := by kernel_rfl
theorem o18 : bodyOk (anL []) Try.f18 = true := by kernel_rfl
theorem w18 {ct : Ct} (ow : Nat → Bool) {code : Code} (hb : Try.f18.body = some code) (hc : CtOk Try.prog ct) {args : List V} {r : V} (ha : Nat.ble args.length 18 = true) (hr : r.noId = true) (h : exec ⟨Try.prog, ct, ow, 18, anL []⟩ code ⟨argE args, hOf []⟩ (PostL [.tmp 4, .tmp 5] r)) : PCall Try.prog 18 args r := pcall_in hc fol 18 n18 hb rfl e18 rfl (bodyOk_at o18 hb rfl) ha hr h
theorem n19 : Try.prog.funcs[19]? = some Try.f19 := by kernel_rfl
theorem e19 : entB Try.prog 19 = true := by kernel_rfl
theorem o19 : bodyOk (anL []) Try.f19 = true := by kernel_rfl
theorem w19 {ct : Ct} (ow : Nat → Bool) {code : Code} (hb : Try.f19.body = some code) (hc : CtOk Try.prog ct) {args : List V} {r : V} (ha : Nat.ble args.length 9 = true) (hr : r.noId = true) (h : exec ⟨Try.prog, ct, ow, 9, anL []⟩ code ⟨argE args, hOf []⟩ (PostL [.tmp 4] r)) : PCall Try.prog 19 args r := pcall_in hc fol 19 n19 hb rfl e19 rfl (bodyOk_at o19 hb rfl) ha hr h
theorem n20 : Try.prog.funcs[20]? = some Try.f20 := by kernel_rfl
theorem e20 : entB Try.prog 20 = true := by kernel_rfl
theorem o20 : bodyOk (anL []) Try.f20 = true := by kernel_rfl
theorem w20 {ct : Ct} (ow : Nat → Bool) {code : Code} (hb : Try.f20.body = some code) (hc : CtOk Try.prog ct) {args : List V} {r : V} (ha : Nat.ble args.length 8 = true) (hr : r.noId = true) (h : exec ⟨Try.prog, ct, ow, 8, anL []⟩ code ⟨argE args, hOf []⟩ (PostL [.tmp 4] r)) : PCall Try.prog 20 args r := pcall_in hc fol 20 n20 hb rfl e20 rfl (bodyOk_at o20 hb rfl) ha hr h
theorem n21 : Try.prog.funcs[21]? = some Try.f21 := by kernel_rfl
theorem e21 : entB Try.prog 21 = true := by kernel_rfl
theorem o21 : bodyOk (anL []) Try.f21 = true := by kernel_rfl
theorem w21 {ct : Ct} (ow : Nat → Bool) {code : Code} (hb : Try.f21.body = some code) (hc : CtOk Try.prog ct) {args : List V} {r : V} (ha : Nat.ble args.length 21 = true) (hr : r.noId = true) (h : exec ⟨Try.prog, ct, ow, 21, anL []⟩ code ⟨argE args, hOf []⟩ (PostL [.tmp 2] r)) : PCall Try.prog 21 args r := pcall_in hc fol 21 n21 hb rfl e21 rfl (bodyOk_at o21 hb rfl) ha hr h
theorem n22 : Try.prog.funcs[22]? = some Try.f22 := by kernel_rfl
theorem e22 : entB Try.prog 22 = true := by kernel_rfl
theorem o22 : bodyOk (anL [(7, [0, 0, 2, 7, 15, 31, 0, 0, 128, 448, 991, 2047, 4095]), (10, [0, 0, 2, 6, 0, 16, 48, 126, 255, 511])]) Try.f22 = true := by kernel_rfl
theorem w22 {ct : Ct} (ow : Nat → Bool) {code : Code} (hb : Try.f22.body = some code) (hc : CtOk Try.prog ct) {args : List V} {r : V} (ha : Nat.ble args.length 73 = true) (hr : r.noId = true) (h : exec ⟨Try.prog, ct, ow, 73, anL [(7, [0, 0, 2, 7, 15, 31, 0, 0, 128, 448, 991, 2047, 4095]), (10, [0, 0, 2, 6, 0, 16, 48, 126, 255, 511])]⟩ code ⟨argE args, hOf []⟩ (PostL [.tmp 2] r)) : PCall Try.prog 22 args r := pcall_in hc fol 22 n22 hb rfl e22 rfl (bodyOk_at o22 hb rfl) ha hr h
theorem n23 : Try.prog.funcs[23]? = some Try.f23 := by kernel_rfl
theorem e23 : entB Try.prog 23 = true := by kernel_rfl
theorem o23 : bodyOk (anL []) Try.f23 = true := by kernel_rfl
theorem w23 {ct : Ct} (ow : Nat → Bool) {code : Code} (hb : Try.f23.body = some code) (hc : CtOk Try.prog ct) {args : List V} {r : V} (ha : Nat.ble args.length 13 = true) (hr : r.noId = true) (h : exec ⟨Try.prog, ct, ow, 13, anL []⟩ code ⟨argE args, hOf []⟩ (PostL [.tmp 2] r)) : PCall Try.prog 23 args r := pcall_in hc fol 23 n23 hb rfl e23 rfl (bodyOk_at o23 hb rfl) ha hr h
theorem n24 : Try.prog.funcs[24]? = some Try.f24 := by kernel_rfl
theorem e24 : entB Try.prog 24 = true := by kernel_rfl
theorem o24 : bodyOk (anL []) Try.f24 = true := by kernel_rfl
theorem w24 {ct : Ct} (ow : Nat → Bool) {code : Code} (hb : Try.f24.body = some code) (hc : CtOk Try.prog ct) {args : List V} {r : V} (ha : Nat.ble args.length 30 = true) (hr : r.noId = true) (h : exec ⟨Try.prog, ct, ow, 30, anL []⟩ code ⟨argE args, hOf []⟩ (PostL [.tmp 2] r)) : PCall Try.prog 24 args r := pcall_in hc fol 24 n24 hb rfl e24 rfl (bodyOk_at o24 hb rfl) ha hr h
theorem n25 : Try.prog.funcs[25]? = some Try.f25 := by kernel_rfl
theorem e25 : entB Try.prog 25 = true := by kernel_rfl
theorem o25 : bodyOk (anL []) Try.f25 = true := by kernel_rfl
theorem w25 {ct : Ct} (ow : Nat → Bool) {code : Code} (hb : Try.f25.body = some code) (hc : CtOk Try.prog ct) {args : List V} {r : V} (ha : Nat.ble args.length 21 = true) (hr : r.noId = true) (h : exec ⟨Try.prog, ct, ow, 21, anL []⟩ code ⟨argE args, hOf []⟩ (PostL [.tmp 4] r)) : PCall Try.prog 25 args r := pcall_in hc fol 25 n25 hb rfl e25 rfl (bodyOk_at o25 hb rfl) ha hr h
theorem n26 : Try.prog.funcs[26]? = some Try.f26 := by kernel_rfl
theorem e26 : entB Try.prog 26 = true := by kernel_rfl
theorem o26 : bodyOk (anL []) Try.f26 = true := by kernel_rfl
theorem w26 {ct : Ct} (ow : Nat → Bool) {code : Code} (hb : Try.f26.body = some code) (hc : CtOk Try.prog ct) {args : List V} {r : V} (ha : Nat.ble args.length 19 = true) (hr : r.noId = true) (h : exec ⟨Try.prog, ct, ow, 19, anL []⟩ code ⟨argE args, hOf []⟩ (PostL [.tmp 4] r)) : PCall Try.prog 26 args r := pcall_in hc fol 26 n26 hb rfl e26 rfl (bodyOk_at o26 hb rfl) ha hr h
theorem n27 : Try.prog.funcs[27]? = some Try.f27 := by kernel_rfl
theorem e27 : entB Try.prog 27 = true := by kernel_rfl
theorem o27 : bodyOk (anL []) Try.f27 = true := by kernel_rfl
theorem w27 {ct : Ct} (ow : Nat → Bool) {code : Code} (hb : Try.f27.body = some code) (hc : CtOk Try.prog ct) {args : List V} {r : V} (ha : Nat.ble args.length 8 = true) (hr : r.noId = true) (h : exec ⟨Try.prog, ct, ow, 8, anL []⟩ code ⟨argE args, hOf []⟩ (PostL [.tmp 4] r)) : PCall Try.prog 27 args r := pcall_in hc fol 27 n27 hb rfl e27 rfl (bodyOk_at o27 hb rfl) ha hr h
theorem n28 : Try.prog.funcs[28]? = some Try.f28 := by kernel_rfl
theorem e28 : entB Try.prog 28 = true := by kernel_rfl
theorem o28 : bodyOk (anL []) Try.f28 = true := by kernel_rfl
theorem w28 {ct : Ct} (ow : Nat → Bool) {code : Code} (hb : Try.f28.body = some code) (hc : CtOk Try.prog ct) {args : List V} {r : V} (ha : Nat.ble args.length 9 = true) (hr : r.noId = true) (h : exec ⟨Try.prog, ct, ow, 9, anL []⟩ code ⟨argE args, hOf []⟩ (PostL [.tmp 2] r)) : PCall Try.prog 28 args r := pcall_in hc fol 28 n28 hb rfl e28 rfl (bodyOk_at o28 hb rfl) ha hr h
theorem n29 : Try.prog.funcs[29]? = some Try.f29 := by kernel_rfl
theorem e29 : entB Try.prog 29 = true := by kernel_rfl
theorem o29 : bodyOk (anL []) Try.f29 = true := by kernel_rfl
theorem w29 {ct : Ct} (ow : Nat → Bool) {code : Code} (hb : Try.f29.body = some code) (hc : CtOk Try.prog ct) {args : List V} {r : V} (ha : Nat.ble args.length 17 = true) (hr : r.noId = true) (h : exec ⟨Try.prog, ct, ow, 17, anL []⟩ code ⟨argE args, hOf []⟩ (PostL [.tmp 2] r)) : PCall Try.prog 29 args r := pcall_in hc fol 29 n29 hb rfl e29 rfl (bodyOk_at o29 hb rfl) ha hr h
theorem n30 : Try.prog.funcs[30]? = some Try.f30 := by kernel_rfl
theorem e30 : entB Try.prog 30 = true := by kernel_rfl
theorem o30 : bodyOk (anL []) Try.f30 = true := by kernel_rfl
theorem w30 {ct : Ct} (ow : Nat → Bool) {code : Code} (hb : Try.f30.body = some code) (hc : CtOk Try.prog ct) {args : List V} {r : V} (ha : Nat.ble args.length 17 = true) (hr : r.noId = true) (h : exec ⟨Try.prog, ct, ow, 17, anL []⟩ code ⟨argE args, hOf []⟩ (PostL [.tmp 2] r)) : PCall Try.prog 30 args r := pcall_in hc fol 30 n30 hb rfl e30 rfl (bodyOk_at o30 hb rfl) ha hr h
end Go.Abs
