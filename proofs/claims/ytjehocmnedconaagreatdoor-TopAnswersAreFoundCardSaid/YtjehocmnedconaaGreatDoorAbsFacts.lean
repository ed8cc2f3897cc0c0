import Derived.Test.YtjehocmnedconaaGreatDoorAbsK3
import Derived.Test.YtjehocmnedconaaGreatDoorRows
import Derived.Lib.TrailingZeros
import Derived.Lib.ItoaNum
namespace Go.Abs
open Go Go.Proofs
set_option maxRecDepth 100000
def foldZ : List Int := match (Go.Proofs.YtjehocmnedconaaGreatDoor.Rows.laid_unicode_asciiFold : DataW Unit) with
  | .agg l => l.map intD
  | _ => []
def orbE : List (DataW Unit) := match (Go.Proofs.YtjehocmnedconaaGreatDoor.Rows.laid_unicode_caseOrbit : DataW Unit) with
  | .slice es _ => es
  | _ => []
def orbN (i j : Nat) : Int := pairD (orbE.getD i .nil) j
def tabs (w : World) : Prop := Lib.TabIs Tryz.prog w "internal/strconv.uint64pow10" .u64 Lib.pow10Tab ∧ Lib.TabIs Tryz.prog w "math/bits.deBruijn64tab" .u8 (Lib.deBruijn64tab.map fun (n : Nat) => (n : Int)) ∧ Lib.TabIs Tryz.prog w "unicode.asciiFold" .u16 foldZ ∧ OrbIs 1 .u16 94 orbN w ∧ ErrCell 7 w
noncomputable def pg : PG := mkPGs Tryz.prog 11 1 (by decide) fun w => tabs w ∧ w.ShapedOpen Tryz.prog
theorem tabPow {w : World} (h : pg.ok w) : Lib.TabIs Tryz.prog w "internal/strconv.uint64pow10" .u64 Lib.pow10Tab := by
  obtain ⟨w0, ⟨h1, _⟩, h2⟩ := h
  exact tabIs_same (g := 6) (n := 11) (by kernel_rfl) (by decide) (fun b hb => h2 b (by omega)) h1.1
theorem tabDb64 {w : World} (h : pg.ok w) : Lib.TabIs Tryz.prog w "math/bits.deBruijn64tab" .u8 (Lib.deBruijn64tab.map fun (n : Nat) => (n : Int)) := by
  obtain ⟨w0, ⟨h1, _⟩, h2⟩ := h
  exact tabIs_same (g := 10) (n := 11) (by kernel_rfl) (by decide) (fun b hb => h2 b (by omega)) h1.2.1
theorem tabFold {w : World} (h : pg.ok w) : Lib.TabIs Tryz.prog w "unicode.asciiFold" .u16 foldZ := by
  obtain ⟨w0, ⟨h1, _⟩, h2⟩ := h
  exact tabIs_same (g := 0) (n := 11) (by kernel_rfl) (by decide) (fun b hb => h2 b (by omega)) h1.2.2.1
theorem orbAt {w : World} (h : pg.ok w) : OrbIs 1 .u16 94 orbN w := by
  obtain ⟨w0, ⟨h1, _⟩, h2⟩ := h
  exact orb_same (n := 11) (by decide) h2 h1.2.2.2.1
theorem tabs_of {w : World} (l : List (String × DataW Unit)) (m0 : ("internal/strconv.uint64pow10", Lib.tabData .u64 Lib.pow10Tab) ∈ l) (m1 : ("math/bits.deBruijn64tab", Lib.tabData .u8 (Lib.deBruijn64tab.map fun (n : Nat) => (n : Int))) ∈ l) (m2 : ("unicode.asciiFold", Lib.tabData .u16 foldZ) ∈ l) (mo : ("unicode.caseOrbit", (Go.Proofs.YtjehocmnedconaaGreatDoor.Rows.laid_unicode_caseOrbit : DataW Unit)) ∈ l) (me : ∃ d, ("strconv.ErrSyntax", d) ∈ l) (h : laidMet Tryz.prog l w) : tabs w := ⟨laidMet_cells (g := 6) (t := 249) (e := 85) (n := 20) (by kernel_rfl) (by kernel_rfl) (by kernel_rfl) (by kernel_rfl) (by kernel_rfl) (by kernel_rfl) l m0 h, laidMet_cells (g := 10) (t := 292) (e := 5) (n := 64) (by kernel_rfl) (by kernel_rfl) (by kernel_rfl) (by kernel_rfl) (by kernel_rfl) (by kernel_rfl) l m1 h, laidMet_cells (g := 0) (t := 150) (e := 149) (n := 128) (by kernel_rfl) (by kernel_rfl) (by kernel_rfl) (by kernel_rfl) (by kernel_rfl) (by kernel_rfl) l m2 h, laidMet_orb (g := 1) (t := 151) (e := 153) (L := [151, 153, 149]) (by kernel_rfl) (.head _) (by kernel_rfl) (by kernel_rfl) (by kernel_rfl) l _ (F := litF (toVL orbE)) (toV_slice rfl (by kernel_rfl)) (by decide) (fun i hi => pairD_hF (es := orbE) (by kernel_rfl) i (Nat.lt_of_lt_of_eq hi (by kernel_rfl))) mo h, (match me with | ⟨d, hd⟩ => laidMet_iface (g := 7) (t := 142) (by kernel_rfl) (by kernel_rfl) (by kernel_rfl) l d hd h)⟩
@[push_cast] theorem pg_prog : pg.prog = Tryz.prog := rfl
theorem fol : Tryz.prog.follows .mixedOrders = true := by kernel_rfl
@[push_cast] theorem t1 : ti Tryz.prog 1 = ⟨.func, 1, 8, some (.con .nilFunc)⟩ := by kernel_rfl
@[push_cast] theorem t2 : ti Tryz.prog 2 = ⟨(.int .i64), 1, 8, some (.int .i64 0)⟩ := by kernel_rfl
@[push_cast] theorem t3 : ti Tryz.prog 3 = ⟨(.int .i64), 1, 8, some (.int .i64 0)⟩ := by kernel_rfl
@[push_cast] theorem t4 : ti Tryz.prog 4 = ⟨.bool, 1, 1, some (.bool false)⟩ := by kernel_rfl
@[push_cast] theorem t5 : ti Tryz.prog 5 = ⟨(.int .u8), 1, 1, some (.int .u8 0)⟩ := by kernel_rfl
@[push_cast] theorem t9 : ti Tryz.prog 9 = ⟨.str, 1, 16, some (.str [])⟩ := by kernel_rfl
@[push_cast] theorem t22 : ti Tryz.prog 22 = ⟨(.slice 63), 1, 24, some .nilsl⟩ := by kernel_rfl
@[push_cast] theorem t23 : ti Tryz.prog 23 = ⟨(.slice 5), 1, 24, some .nilsl⟩ := by kernel_rfl
@[push_cast] theorem t25 : ti Tryz.prog 25 = ⟨(.struct [(0, 3), (1, 9), (2, 22), (3, 23)]), 4, 72, some (.agg [(.int .i64 0), (.str []), .nilsl, .nilsl])⟩ := by kernel_rfl
@[push_cast] theorem t27 : ti Tryz.prog 27 = ⟨(.struct [(0, 3), (1, 9), (2, 9), (3, 3), (4, 9), (5, 22), (6, 23)]), 7, 112, some (.agg [(.int .i64 0), (.str []), (.str []), (.int .i64 0), (.str []), .nilsl, .nilsl])⟩ := by kernel_rfl
@[push_cast] theorem t28 : ti Tryz.prog 28 = ⟨(.int .i64), 1, 8, some (.int .i64 0)⟩ := by kernel_rfl
@[push_cast] theorem t34 : ti Tryz.prog 34 = ⟨(.slice 27), 1, 24, some .nilsl⟩ := by kernel_rfl
@[push_cast] theorem t35 : ti Tryz.prog 35 = ⟨(.slice 47), 1, 24, some .nilsl⟩ := by kernel_rfl
@[push_cast] theorem t39 : ti Tryz.prog 39 = ⟨(.struct [(0, 9), (1, 23)]), 2, 40, some (.agg [(.str []), .nilsl])⟩ := by kernel_rfl
@[push_cast] theorem t40 : ti Tryz.prog 40 = ⟨(.slice 39), 1, 24, some .nilsl⟩ := by kernel_rfl
@[push_cast] theorem t41 : ti Tryz.prog 41 = ⟨(.slice 198), 1, 24, some .nilsl⟩ := by kernel_rfl
@[push_cast] theorem t43 : ti Tryz.prog 43 = ⟨(.struct [(0, 35), (1, 40), (2, 41)]), 3, 72, some (.agg [.nilsl, .nilsl, .nilsl])⟩ := by kernel_rfl
@[push_cast] theorem t45 : ti Tryz.prog 45 = ⟨(.struct [(0, 3), (1, 3)]), 2, 16, some (.agg [(.int .i64 0), (.int .i64 0)])⟩ := by kernel_rfl
@[push_cast] theorem t47 : ti Tryz.prog 47 = ⟨(.struct [(0, 9), (1, 3), (2, 3), (3, 9), (4, 9), (5, 9), (6, 45), (8, 4)]), 9, 104, some (.agg [(.str []), (.int .i64 0), (.int .i64 0), (.str []), (.str []), (.str []), (.int .i64 0), (.int .i64 0), (.bool false)])⟩ := by kernel_rfl
@[push_cast] theorem eq63 : EqOk Tryz.prog 63 = True := eq_true (eqOk_of (by kernel_rfl))
@[push_cast] theorem t63 : ti Tryz.prog 63 = ⟨(.struct [(0, 9), (1, 9)]), 2, 32, some (.agg [(.str []), (.str [])])⟩ := by kernel_rfl
@[push_cast] theorem t66 : ti Tryz.prog 66 = ⟨.func, 1, 8, some (.con .nilFunc)⟩ := by kernel_rfl
@[push_cast] theorem t69 : ti Tryz.prog 69 = ⟨(.slice 73), 1, 24, some .nilsl⟩ := by kernel_rfl
@[push_cast] theorem t73 : ti Tryz.prog 73 = ⟨(.struct [(0, 9), (1, 45)]), 3, 32, some (.agg [(.str []), (.int .i64 0), (.int .i64 0)])⟩ := by kernel_rfl
@[push_cast] theorem t85 : ti Tryz.prog 85 = ⟨(.int .u64), 1, 8, some (.int .u64 0)⟩ := by kernel_rfl
@[push_cast] theorem t101 : ti Tryz.prog 101 = ⟨(.map 9 4), 1, 8, some (.con (.map none))⟩ := by kernel_rfl
@[push_cast] theorem t104 : ti Tryz.prog 104 = ⟨(.slice 9), 1, 24, some .nilsl⟩ := by kernel_rfl
@[push_cast] theorem t117 : ti Tryz.prog 117 = ⟨(.struct [(0, 9), (1, 9)]), 2, 32, some (.agg [(.str []), (.str [])])⟩ := by kernel_rfl
@[push_cast] theorem t123 : ti Tryz.prog 123 = ⟨(.int .u64), 1, 8, some (.int .u64 0)⟩ := by kernel_rfl
@[push_cast] theorem t129 : ti Tryz.prog 129 = ⟨(.map 9 134), 1, 8, some (.con (.map none))⟩ := by kernel_rfl
@[push_cast] theorem t131 : ti Tryz.prog 131 = ⟨(.struct [(0, 43), (3, 129)]), 4, 80, some (.agg [.nilsl, .nilsl, .nilsl, (.con (.map none))])⟩ := by kernel_rfl
@[push_cast] theorem t132 : ti Tryz.prog 132 = ⟨(.map 45 9), 1, 8, some (.con (.map none))⟩ := by kernel_rfl
@[push_cast] theorem t134 : ti Tryz.prog 134 = ⟨(.struct [(0, 34), (1, 132)]), 2, 32, some (.agg [.nilsl, (.con (.map none))])⟩ := by kernel_rfl
@[push_cast] theorem t146 : ti Tryz.prog 146 = ⟨(.struct [(0, 3), (1, 3), (2, 3), (3, 3), (4, 3), (5, 3)]), 6, 48, some (.agg [(.int .i64 0), (.int .i64 0), (.int .i64 0), (.int .i64 0), (.int .i64 0), (.int .i64 0)])⟩ := by kernel_rfl
@[push_cast] theorem t193 : ti Tryz.prog 193 = ⟨(.int .u32), 1, 4, some (.int .u32 0)⟩ := by kernel_rfl
@[push_cast] theorem t195 : ti Tryz.prog 195 = ⟨(.slice 3), 1, 24, some .nilsl⟩ := by kernel_rfl
@[push_cast] theorem t201 : ti Tryz.prog 201 = ⟨(.arr 24 5), 24, 24, some (.agg [(.int .u8 0), (.int .u8 0), (.int .u8 0), (.int .u8 0), (.int .u8 0), (.int .u8 0), (.int .u8 0), (.int .u8 0), (.int .u8 0), (.int .u8 0), (.int .u8 0), (.int .u8 0), (.int .u8 0), (.int .u8 0), (.int .u8 0), (.int .u8 0), (.int .u8 0), (.int .u8 0), (.int .u8 0), (.int .u8 0), (.int .u8 0), (.int .u8 0), (.int .u8 0), (.int .u8 0)])⟩ := by kernel_rfl
@[push_cast] theorem t216 : ti Tryz.prog 216 = ⟨(.ptr 218), 1, 8, some (.con (.pointer none))⟩ := by kernel_rfl
@[push_cast] theorem t218 : ti Tryz.prog 218 = ⟨(.struct [(0, 23), (1, 3), (2, 27), (9, 3), (10, 9)]), 11, 168, some (.agg [.nilsl, (.int .i64 0), (.int .i64 0), (.str []), (.str []), (.int .i64 0), (.str []), .nilsl, .nilsl, (.int .i64 0), (.str [])])⟩ := by kernel_rfl
@[push_cast] theorem t250 : ti Tryz.prog 250 = ⟨(.arr 65 5), 65, 65, some (.agg [(.int .u8 0), (.int .u8 0), (.int .u8 0), (.int .u8 0), (.int .u8 0), (.int .u8 0), (.int .u8 0), (.int .u8 0), (.int .u8 0), (.int .u8 0), (.int .u8 0), (.int .u8 0), (.int .u8 0), (.int .u8 0), (.int .u8 0), (.int .u8 0), (.int .u8 0), (.int .u8 0), (.int .u8 0), (.int .u8 0), (.int .u8 0), (.int .u8 0), (.int .u8 0), (.int .u8 0), (.int .u8 0), (.int .u8 0), (.int .u8 0), (.int .u8 0), (.int .u8 0), (.int .u8 0), (.int .u8 0), (.int .u8 0), (.int .u8 0), (.int .u8 0), (.int .u8 0), (.int .u8 0), (.int .u8 0), (.int .u8 0), (.int .u8 0), (.int .u8 0), (.int .u8 0), (.int .u8 0), (.int .u8 0), (.int .u8 0), (.int .u8 0), (.int .u8 0), (.int .u8 0), (.int .u8 0), (.int .u8 0), (.int .u8 0), (.int .u8 0), (.int .u8 0), (.int .u8 0), (.int .u8 0), (.int .u8 0), (.int .u8 0), (.int .u8 0), (.int .u8 0), (.int .u8 0), (.int .u8 0), (.int .u8 0), (.int .u8 0), (.int .u8 0), (.int .u8 0), (.int .u8 0)])⟩ := by kernel_rfl
@[push_cast] theorem t260 : ti Tryz.prog 260 = ⟨(.ptr 9), 1, 8, some (.con (.pointer none))⟩ := by kernel_rfl
@[push_cast] theorem t261 : ti Tryz.prog 261 = ⟨.func, 1, 8, some (.con .nilFunc)⟩ := by kernel_rfl
@[push_cast] theorem t274 : ti Tryz.prog 274 = ⟨.func, 1, 8, some (.con .nilFunc)⟩ := by kernel_rfl
theorem n2 : Tryz.prog.funcs[2]? = some Tryz.f2 := by kernel_rfl
theorem e2 : entB Tryz.prog 2 = true := by kernel_rfl
theorem o2 : bodyOk (anL []) Tryz.f2 = true := by kernel_rfl
theorem n3 : Tryz.prog.funcs[3]? = some Tryz.f3 := by kernel_rfl
theorem e3 : entB Tryz.prog 3 = true := by kernel_rfl
theorem o3 : bodyOk (anL [(15, [0, 1, 3, 7, 15, 31, 63, 127, 255, 127, 639, 2047, 4095])]) Tryz.f3 = true := by kernel_rfl
theorem w3 {ct : Ct} (ow : Nat → Bool) (ad : List Adj) {code : Code} (hb : Tryz.f3.body = some code) (hc : CtOk pg ct) {args : List V} {r : V} (ha : Nat.ble args.length 117 = true) (hr : r.noId = true) (h : exec ⟨pg, ct, ow, 117, anL [(15, [0, 1, 3, 7, 15, 31, 63, 127, 255, 127, 639, 2047, 4095])], true, none⟩ code ⟨argE args, hOf []⟩ (PostF pg.prog ad [.tmp 8] r [])) : PCall pg 3 args r := pcall_inF ad hc fol 3 n3 hb rfl e3 rfl (bodyOk_at o3 hb rfl) ha hr h
theorem n4 : Tryz.prog.funcs[4]? = some Tryz.f4 := by kernel_rfl
theorem e4 : entB Tryz.prog 4 = true := by kernel_rfl
theorem o4 : bodyOk (anL [(4, [0, 1, 3, 7, 15, 0, 32, 127, 255, 511, 0, 1024, 4095, 8191])]) Tryz.f4 = true := by kernel_rfl
theorem w4 {ct : Ct} (ow : Nat → Bool) (ad : List Adj) {code : Code} (hb : Tryz.f4.body = some code) (hc : CtOk pg ct) {args : List V} {r : V} (ha : Nat.ble args.length 42 = true) (hr : r.noId = true) (h : exec ⟨pg, ct, ow, 42, anL [(4, [0, 1, 3, 7, 15, 0, 32, 127, 255, 511, 0, 1024, 4095, 8191])], true, none⟩ code ⟨argE args, hOf []⟩ (PostF pg.prog ad [.tmp 6, .tmp 7] r [])) : PCall pg 4 args r := pcall_inF ad hc fol 4 n4 hb rfl e4 rfl (bodyOk_at o4 hb rfl) ha hr h
theorem n5 : Tryz.prog.funcs[5]? = some Tryz.f5 := by kernel_rfl
theorem e5 : entB Tryz.prog 5 = true := by kernel_rfl
theorem o5 : bodyOk (anL []) Tryz.f5 = true := by kernel_rfl
theorem w5 {ct : Ct} (ow : Nat → Bool) (ad : List Adj) {code : Code} (hb : Tryz.f5.body = some code) (hc : CtOk pg ct) {args : List V} {r : V} (ha : Nat.ble args.length 17 = true) (hr : r.noId = true) (h : exec ⟨pg, ct, ow, 17, anL [], true, none⟩ code ⟨argE args, hOf []⟩ (PostF pg.prog ad [.tmp 0] r [])) : PCall pg 5 args r := pcall_inF ad hc fol 5 n5 hb rfl e5 rfl (bodyOk_at o5 hb rfl) ha hr h
theorem n6 : Tryz.prog.funcs[6]? = some Tryz.f6 := by kernel_rfl
theorem e6 : entB Tryz.prog 6 = true := by kernel_rfl
theorem o6 : bodyOk (anL []) Tryz.f6 = true := by kernel_rfl
theorem w6 {ct : Ct} (ow : Nat → Bool) (ad : List Adj) {code : Code} (hb : Tryz.f6.body = some code) (hc : CtOk pg ct) {args : List V} {r : V} (ha : Nat.ble args.length 16 = true) (hr : r.noId = true) (h : exec ⟨pg, ct, ow, 16, anL [], true, none⟩ code ⟨argE args, hOf []⟩ (PostF pg.prog ad [.tmp 2] r [])) : PCall pg 6 args r := pcall_inF ad hc fol 6 n6 hb rfl e6 rfl (bodyOk_at o6 hb rfl) ha hr h
theorem n7 : Tryz.prog.funcs[7]? = some Tryz.f7 := by kernel_rfl
theorem e7 : entB Tryz.prog 7 = true := by kernel_rfl
theorem o7 : bodyOk (anL []) Tryz.f7 = true := by kernel_rfl
theorem w7 {ct : Ct} (ow : Nat → Bool) (ad : List Adj) {code : Code} (hb : Tryz.f7.body = some code) (hc : CtOk pg ct) {args : List V} {r : V} (ha : Nat.ble args.length 24 = true) (hr : r.noId = true) (h : exec ⟨pg, ct, ow, 24, anL [], true, none⟩ code ⟨argE args, hOf []⟩ (PostF pg.prog ad [.tmp 2, .tmp 3] r [])) : PCall pg 7 args r := pcall_inF ad hc fol 7 n7 hb rfl e7 rfl (bodyOk_at o7 hb rfl) ha hr h
theorem n8 : Tryz.prog.funcs[8]? = some Tryz.f8 := by kernel_rfl
theorem e8 : entB Tryz.prog 8 = true := by kernel_rfl
theorem o8 : bodyOk (anL [(12, [0, 1, 0, 4, 0, 0, 0, 96, 224, 480, 0, 1024, 3072, 8191, 0, 32767])]) Tryz.f8 = true := by kernel_rfl
theorem w8 {ct : Ct} (ow : Nat → Bool) (ad : List Adj) {code : Code} (hb : Tryz.f8.body = some code) (hc : CtOk pg ct) {args : List V} {r : V} (ha : Nat.ble args.length 95 = true) (hr : r.noId = true) (h : exec ⟨pg, ct, ow, 95, anL [(12, [0, 1, 0, 4, 0, 0, 0, 96, 224, 480, 0, 1024, 3072, 8191, 0, 32767])], true, none⟩ code ⟨argE args, hOf []⟩ (PostF pg.prog ad [.tmp 4, .tmp 5] r [])) : PCall pg 8 args r := pcall_inF ad hc fol 8 n8 hb rfl e8 rfl (bodyOk_at o8 hb rfl) ha hr h
theorem n9 : Tryz.prog.funcs[9]? = some Tryz.f9 := by kernel_rfl
theorem e9 : entB Tryz.prog 9 = true := by kernel_rfl
theorem o9 : bodyOk (anL []) Tryz.f9 = true := by kernel_rfl
theorem w9 {ct : Ct} (ow : Nat → Bool) (ad : List Adj) {code : Code} (hb : Tryz.f9.body = some code) (hc : CtOk pg ct) {args : List V} {r : V} (ha : Nat.ble args.length 37 = true) (hr : r.noId = true) (h : exec ⟨pg, ct, ow, 37, anL [], true, none⟩ code ⟨argE args, hOf []⟩ (PostF pg.prog ad [.cell 8 47, .tmp 9, .tmp 10] r [])) : PCall pg 9 args r := pcall_inF ad hc fol 9 n9 hb rfl e9 rfl (bodyOk_at o9 hb rfl) ha hr h
theorem n10 : Tryz.prog.funcs[10]? = some Tryz.f10 := by kernel_rfl
theorem e10 : entB Tryz.prog 10 = true := by kernel_rfl
theorem o10 : bodyOk (anL []) Tryz.f10 = true := by kernel_rfl
theorem w10 {ct : Ct} (ow : Nat → Bool) (ad : List Adj) {code : Code} (hb : Tryz.f10.body = some code) (hc : CtOk pg ct) {args : List V} {r : V} (ha : Nat.ble args.length 6 = true) (hr : r.noId = true) (h : exec ⟨pg, ct, ow, 6, anL [], true, none⟩ code ⟨argE args, hOf []⟩ (PostF pg.prog ad [.tmp 2] r [])) : PCall pg 10 args r := pcall_inF ad hc fol 10 n10 hb rfl e10 rfl (bodyOk_at o10 hb rfl) ha hr h
theorem n11 : Tryz.prog.funcs[11]? = some Tryz.f11 := by kernel_rfl
theorem e11 : entB Tryz.prog 11 = true := by kernel_rfl
theorem o11 : bodyOk (anL []) Tryz.f11 = true := by kernel_rfl
theorem w11 {ct : Ct} (ow : Nat → Bool) (ad : List Adj) {code : Code} (hb : Tryz.f11.body = some code) (hc : CtOk pg ct) {args : List V} {r : V} (ha : Nat.ble args.length 28 = true) (hr : r.noId = true) (h : exec ⟨pg, ct, ow, 28, anL [], true, none⟩ code ⟨argE args, hOf []⟩ (PostF pg.prog ad [.cell 4 25, .tmp 5] r [])) : PCall pg 11 args r := pcall_inF ad hc fol 11 n11 hb rfl e11 rfl (bodyOk_at o11 hb rfl) ha hr h
theorem n12 : Tryz.prog.funcs[12]? = some Tryz.f12 := by kernel_rfl
theorem e12 : entB Tryz.prog 12 = true := by kernel_rfl
theorem o12 : bodyOk (anL []) Tryz.f12 = true := by kernel_rfl
theorem w12 {ct : Ct} (ow : Nat → Bool) (ad : List Adj) {code : Code} (hb : Tryz.f12.body = some code) (hc : CtOk pg ct) {args : List V} {r : V} (ha : Nat.ble args.length 31 = true) (hr : r.noId = true) (h : exec ⟨pg, ct, ow, 31, anL [], true, none⟩ code ⟨argE args, hOf []⟩ (PostF pg.prog ad [.tmp 4] r [])) : PCall pg 12 args r := pcall_inF ad hc fol 12 n12 hb rfl e12 rfl (bodyOk_at o12 hb rfl) ha hr h
theorem n13 : Tryz.prog.funcs[13]? = some Tryz.f13 := by kernel_rfl
theorem e13 : entB Tryz.prog 13 = true := by kernel_rfl
theorem o13 : bodyOk (anL []) Tryz.f13 = true := by kernel_rfl
theorem w13 {ct : Ct} (ow : Nat → Bool) (ad : List Adj) {code : Code} (hb : Tryz.f13.body = some code) (hc : CtOk pg ct) {args : List V} {r : V} (ha : Nat.ble args.length 76 = true) (hr : r.noId = true) (h : exec ⟨pg, ct, ow, 76, anL [], true, none⟩ code ⟨argE args, hOf []⟩ (PostF pg.prog ad [.tmp 6] r [])) : PCall pg 13 args r := pcall_inF ad hc fol 13 n13 hb rfl e13 rfl (bodyOk_at o13 hb rfl) ha hr h
theorem n14 : Tryz.prog.funcs[14]? = some Tryz.f14 := by kernel_rfl
theorem e14 : entB Tryz.prog 14 = true := by kernel_rfl
theorem o14 : bodyOk (anL []) Tryz.f14 = true := by kernel_rfl
theorem fw14 {ct : Ct} (ow : Nat → Bool) (ad : List Adj) {code : Code} (hb : Tryz.f14.body = some code) (hc : CtOk pg ct) {args : List V} {hl hl' : HL} {r : V} (ha : Nat.ble args.length 25 = true) (hlo : ∀ p ∈ hl, 9000 ≤ p.1) (hin : hlIn (idsIn hl) hl') (hr : V.menIn (idsIn hl) r = true) (h : exec ⟨pg, ct, ow, 25, anL [], true, none⟩ code ⟨argE args, hOf hl⟩ (PostF pg.prog ad [.tmp 4] r hl')) : FCall pg 14 args hl r hl' := fcall_inF ad hc fol 14 n14 hb rfl e14 rfl (bodyOk_at o14 hb rfl) ha hlo hin hr h
theorem n16 : Tryz.prog.funcs[16]? = some Tryz.f16 := by kernel_rfl
theorem e16 : entB Tryz.prog 16 = true := by kernel_rfl
theorem o16 : bodyOk (anL []) Tryz.f16 = true := by kernel_rfl
theorem w16 {ct : Ct} (ow : Nat → Bool) (ad : List Adj) {code : Code} (hb : Tryz.f16.body = some code) (hc : CtOk pg ct) {args : List V} {r : V} (ha : Nat.ble args.length 30 = true) (hr : r.noId = true) (h : exec ⟨pg, ct, ow, 30, anL [], true, none⟩ code ⟨argE args, hOf []⟩ (PostF pg.prog ad [.tmp 4] r [])) : PCall pg 16 args r := pcall_inF ad hc fol 16 n16 hb rfl e16 rfl (bodyOk_at o16 hb rfl) ha hr h
theorem n17 : Tryz.prog.funcs[17]? = some Tryz.f17 := by kernel_rfl
theorem e17 : entB Tryz.prog 17 = true := by kernel_rfl
theorem o17 : bodyOk (anL []) Tryz.f17 = true := by kernel_rfl
theorem w17 {ct : Ct} (ow : Nat → Bool) (ad : List Adj) {code : Code} (hb : Tryz.f17.body = some code) (hc : CtOk pg ct) {args : List V} {r : V} (ha : Nat.ble args.length 9 = true) (hr : r.noId = true) (h : exec ⟨pg, ct, ow, 9, anL [], true, none⟩ code ⟨argE args, hOf []⟩ (PostF pg.prog ad [.tmp 2, .tmp 3] r [])) : PCall pg 17 args r := pcall_inF ad hc fol 17 n17 hb rfl e17 rfl (bodyOk_at o17 hb rfl) ha hr h
theorem n18 : Tryz.prog.funcs[18]? = some Tryz.f18 := by kernel_rfl
theorem e18 : entB Tryz.prog 18 = true := by kernel_rfl
theorem o18 : bodyOk (anL []) Tryz.f18 = true := by kernel_rfl
theorem w18 {ct : Ct} (ow : Nat → Bool) (ad : List Adj) {code : Code} (hb : Tryz.f18.body = some code) (hc : CtOk pg ct) {args : List V} {r : V} (ha : Nat.ble args.length 8 = true) (hr : r.noId = true) (h : exec ⟨pg, ct, ow, 8, anL [], true, none⟩ code ⟨argE args, hOf []⟩ (PostF pg.prog ad [.tmp 4] r [])) : PCall pg 18 args r := pcall_inF ad hc fol 18 n18 hb rfl e18 rfl (bodyOk_at o18 hb rfl) ha hr h
theorem n20 : Tryz.prog.funcs[20]? = some Tryz.f20 := by kernel_rfl
theorem e20 : entB Tryz.prog 20 = true := by kernel_rfl
theorem o20 : bodyOk (anL []) Tryz.f20 = true := by kernel_rfl
theorem w20 {ct : Ct} (ow : Nat → Bool) (ad : List Adj) {code : Code} (hb : Tryz.f20.body = some code) (hc : CtOk pg ct) {args : List V} {r : V} (ha : Nat.ble args.length 38 = true) (hr : r.noId = true) (h : exec ⟨pg, ct, ow, 38, anL [], true, none⟩ code ⟨argE args, hOf []⟩ (PostF pg.prog ad [.tmp 2] r [])) : PCall pg 20 args r := pcall_inF ad hc fol 20 n20 hb rfl e20 rfl (bodyOk_at o20 hb rfl) ha hr h
theorem n21 : Tryz.prog.funcs[21]? = some Tryz.f21 := by kernel_rfl
theorem e21 : entB Tryz.prog 21 = true := by kernel_rfl
theorem o21 : bodyOk (anL [(6, [0, 0, 0, 4, 12, 30, 62, 127]), (17, [0, 1, 0, 4, 15, 31])]) Tryz.f21 = true := by kernel_rfl
theorem w21 {ct : Ct} (ow : Nat → Bool) (ad : List Adj) {code : Code} (hb : Tryz.f21.body = some code) (hc : CtOk pg ct) {args : List V} {r : V} (ha : Nat.ble args.length 77 = true) (hr : r.noId = true) (h : exec ⟨pg, ct, ow, 77, anL [(6, [0, 0, 0, 4, 12, 30, 62, 127]), (17, [0, 1, 0, 4, 15, 31])], true, none⟩ code ⟨argE args, hOf []⟩ (PostF pg.prog ad [.tmp 4] r [])) : PCall pg 21 args r := pcall_inF ad hc fol 21 n21 hb rfl e21 rfl (bodyOk_at o21 hb rfl) ha hr h
theorem fw21 {ct : Ct} (ow : Nat → Bool) (ad : List Adj) {code : Code} (hb : Tryz.f21.body = some code) (hc : CtOk pg ct) {args : List V} {hl hl' : HL} {r : V} (ha : Nat.ble args.length 77 = true) (hlo : ∀ p ∈ hl, 9000 ≤ p.1) (hin : hlIn (idsIn hl) hl') (hr : V.menIn (idsIn hl) r = true) (h : exec ⟨pg, ct, ow, 77, anL [(6, [0, 0, 0, 4, 12, 30, 62, 127]), (17, [0, 1, 0, 4, 15, 31])], true, none⟩ code ⟨argE args, hOf hl⟩ (PostF pg.prog ad [.tmp 4] r hl')) : FCall pg 21 args hl r hl' := fcall_inF ad hc fol 21 n21 hb rfl e21 rfl (bodyOk_at o21 hb rfl) ha hlo hin hr h
theorem n22 : Tryz.prog.funcs[22]? = some Tryz.f22 := by kernel_rfl
theorem e22 : entB Tryz.prog 22 = true := by kernel_rfl
theorem o22 : bodyOk (anL []) Tryz.f22 = true := by kernel_rfl
theorem w22 {ct : Ct} (ow : Nat → Bool) (ad : List Adj) {code : Code} (hb : Tryz.f22.body = some code) (hc : CtOk pg ct) {args : List V} {r : V} (ha : Nat.ble args.length 26 = true) (hr : r.noId = true) (h : exec ⟨pg, ct, ow, 26, anL [], true, none⟩ code ⟨argE args, hOf []⟩ (PostF pg.prog ad [.tmp 2] r [])) : PCall pg 22 args r := pcall_inF ad hc fol 22 n22 hb rfl e22 rfl (bodyOk_at o22 hb rfl) ha hr h
theorem n23 : Tryz.prog.funcs[23]? = some Tryz.f23 := by kernel_rfl
theorem e23 : entB Tryz.prog 23 = true := by kernel_rfl
theorem o23 : bodyOk (anL []) Tryz.f23 = true := by kernel_rfl
theorem w23 {ct : Ct} (ow : Nat → Bool) (ad : List Adj) {code : Code} (hb : Tryz.f23.body = some code) (hc : CtOk pg ct) {args : List V} {r : V} (ha : Nat.ble args.length 19 = true) (hr : r.noId = true) (h : exec ⟨pg, ct, ow, 19, anL [], true, none⟩ code ⟨argE args, hOf []⟩ (PostF pg.prog ad [.tmp 2, .tmp 3, .tmp 4] r [])) : PCall pg 23 args r := pcall_inF ad hc fol 23 n23 hb rfl e23 rfl (bodyOk_at o23 hb rfl) ha hr h
theorem n24 : Tryz.prog.funcs[24]? = some Tryz.f24 := by kernel_rfl
theorem e24 : entB Tryz.prog 24 = true := by kernel_rfl
theorem o24 : bodyOk (anL []) Tryz.f24 = true := by kernel_rfl
theorem w24 {ct : Ct} (ow : Nat → Bool) (ad : List Adj) {code : Code} (hb : Tryz.f24.body = some code) (hc : CtOk pg ct) {args : List V} {r : V} (ha : Nat.ble args.length 17 = true) (hr : r.noId = true) (h : exec ⟨pg, ct, ow, 17, anL [], true, none⟩ code ⟨argE args, hOf []⟩ (PostF pg.prog ad [.tmp 2, .tmp 3] r [])) : PCall pg 24 args r := pcall_inF ad hc fol 24 n24 hb rfl e24 rfl (bodyOk_at o24 hb rfl) ha hr h
theorem n25 : Tryz.prog.funcs[25]? = some Tryz.f25 := by kernel_rfl
theorem e25 : entB Tryz.prog 25 = true := by kernel_rfl
theorem o25 : bodyOk (anL [(11, [0, 0, 2, 7, 0, 16, 15, 127])]) Tryz.f25 = true := by kernel_rfl
theorem w25 {ct : Ct} (ow : Nat → Bool) (ad : List Adj) {code : Code} (hb : Tryz.f25.body = some code) (hc : CtOk pg ct) {args : List V} {r : V} (ha : Nat.ble args.length 46 = true) (hr : r.noId = true) (h : exec ⟨pg, ct, ow, 46, anL [(11, [0, 0, 2, 7, 0, 16, 15, 127])], true, none⟩ code ⟨argE args, hOf []⟩ (PostF pg.prog ad [.tmp 4, .tmp 5] r [])) : PCall pg 25 args r := pcall_inF ad hc fol 25 n25 hb rfl e25 rfl (bodyOk_at o25 hb rfl) ha hr h
theorem n26 : Tryz.prog.funcs[26]? = some Tryz.f26 := by kernel_rfl
theorem e26 : entB Tryz.prog 26 = true := by kernel_rfl
theorem o26 : bodyOk (anL [(7, [0, 1, 0, 4, 3, 31])]) Tryz.f26 = true := by kernel_rfl
theorem w26 {ct : Ct} (ow : Nat → Bool) (ad : List Adj) {code : Code} (hb : Tryz.f26.body = some code) (hc : CtOk pg ct) {args : List V} {r : V} (ha : Nat.ble args.length 41 = true) (hr : r.noId = true) (h : exec ⟨pg, ct, ow, 41, anL [(7, [0, 1, 0, 4, 3, 31])], true, none⟩ code ⟨argE args, hOf []⟩ (PostF pg.prog ad [.tmp 2, .tmp 3] r [])) : PCall pg 26 args r := pcall_inF ad hc fol 26 n26 hb rfl e26 rfl (bodyOk_at o26 hb rfl) ha hr h
theorem n27 : Tryz.prog.funcs[27]? = some Tryz.f27 := by kernel_rfl
theorem e27 : entB Tryz.prog 27 = true := by kernel_rfl
theorem o27 : bodyOk (anL []) Tryz.f27 = true := by kernel_rfl
theorem w27 {ct : Ct} (ow : Nat → Bool) (ad : List Adj) {code : Code} (hb : Tryz.f27.body = some code) (hc : CtOk pg ct) {args : List V} {r : V} (ha : Nat.ble args.length 14 = true) (hr : r.noId = true) (h : exec ⟨pg, ct, ow, 14, anL [], true, none⟩ code ⟨argE args, hOf []⟩ (PostF pg.prog ad [] r [])) : PCall pg 27 args r := pcall_inF ad hc fol 27 n27 hb rfl e27 rfl (bodyOk_at o27 hb rfl) ha hr h
theorem n29 : Tryz.prog.funcs[29]? = some Tryz.f29 := by kernel_rfl
theorem e29 : entB Tryz.prog 29 = true := by kernel_rfl
theorem o29 : bodyOk (anL []) Tryz.f29 = true := by kernel_rfl
theorem w29 {ct : Ct} (ow : Nat → Bool) (ad : List Adj) {code : Code} (hb : Tryz.f29.body = some code) (hc : CtOk pg ct) {args : List V} {r : V} (ha : Nat.ble args.length 32 = true) (hr : r.noId = true) (h : exec ⟨pg, ct, ow, 32, anL [], true, none⟩ code ⟨argE args, hOf []⟩ (PostF pg.prog ad [.tmp 8, .tmp 9] r [])) : PCall pg 29 args r := pcall_inF ad hc fol 29 n29 hb rfl e29 rfl (bodyOk_at o29 hb rfl) ha hr h
theorem n30 : Tryz.prog.funcs[30]? = some Tryz.f30 := by kernel_rfl
theorem e30 : entB Tryz.prog 30 = true := by kernel_rfl
theorem o30 : bodyOk (anL []) Tryz.f30 = true := by kernel_rfl
theorem w30 {ct : Ct} (ow : Nat → Bool) (ad : List Adj) {code : Code} (hb : Tryz.f30.body = some code) (hc : CtOk pg ct) {args : List V} {r : V} (ha : Nat.ble args.length 30 = true) (hr : r.noId = true) (h : exec ⟨pg, ct, ow, 30, anL [], true, none⟩ code ⟨argE args, hOf []⟩ (PostF pg.prog ad [.cell 8 47, .tmp 9] r [])) : PCall pg 30 args r := pcall_inF ad hc fol 30 n30 hb rfl e30 rfl (bodyOk_at o30 hb rfl) ha hr h
theorem n31 : Tryz.prog.funcs[31]? = some Tryz.f31 := by kernel_rfl
theorem e31 : entB Tryz.prog 31 = true := by kernel_rfl
theorem o31 : bodyOk (anL []) Tryz.f31 = true := by kernel_rfl
theorem w31 {ct : Ct} (ow : Nat → Bool) (ad : List Adj) {code : Code} (hb : Tryz.f31.body = some code) (hc : CtOk pg ct) {args : List V} {r : V} (ha : Nat.ble args.length 23 = true) (hr : r.noId = true) (h : exec ⟨pg, ct, ow, 23, anL [], true, none⟩ code ⟨argE args, hOf []⟩ (PostF pg.prog ad [.tmp 2] r [])) : PCall pg 31 args r := pcall_inF ad hc fol 31 n31 hb rfl e31 rfl (bodyOk_at o31 hb rfl) ha hr h
theorem n32 : Tryz.prog.funcs[32]? = some Tryz.f32 := by kernel_rfl
theorem e32 : entB Tryz.prog 32 = true := by kernel_rfl
theorem o32 : bodyOk (anL []) Tryz.f32 = true := by kernel_rfl
theorem w32 {ct : Ct} (ow : Nat → Bool) (ad : List Adj) {code : Code} (hb : Tryz.f32.body = some code) (hc : CtOk pg ct) {args : List V} {r : V} (ha : Nat.ble args.length 20 = true) (hr : r.noId = true) (h : exec ⟨pg, ct, ow, 20, anL [], true, none⟩ code ⟨argE args, hOf []⟩ (PostF pg.prog ad [.tmp 2] r [])) : PCall pg 32 args r := pcall_inF ad hc fol 32 n32 hb rfl e32 rfl (bodyOk_at o32 hb rfl) ha hr h
theorem n33 : Tryz.prog.funcs[33]? = some Tryz.f33 := by kernel_rfl
theorem e33 : entB Tryz.prog 33 = true := by kernel_rfl
theorem o33 : bodyOk (anL [(12, [0, 1, 3, 7, 15, 7, 39, 7, 135, 487, 999, 2023, 4095, 8191]), (24, [0, 1, 3, 7, 0, 16, 0, 127]), (32, [0, 1, 3, 7, 0, 16, 63, 127, 255, 255, 0, 1535, 4095])]) Tryz.f33 = true := by kernel_rfl
theorem w33 {ct : Ct} (ow : Nat → Bool) (ad : List Adj) {code : Code} (hb : Tryz.f33.body = some code) (hc : CtOk pg ct) {args : List V} {r : V} (ha : Nat.ble args.length 153 = true) (hr : r.noId = true) (h : exec ⟨pg, ct, ow, 153, anL [(12, [0, 1, 3, 7, 15, 7, 39, 7, 135, 487, 999, 2023, 4095, 8191]), (24, [0, 1, 3, 7, 0, 16, 0, 127]), (32, [0, 1, 3, 7, 0, 16, 63, 127, 255, 255, 0, 1535, 4095])], true, none⟩ code ⟨argE args, hOf []⟩ (PostF pg.prog ad [.tmp 2, .tmp 3] r [])) : PCall pg 33 args r := pcall_inF ad hc fol 33 n33 hb rfl e33 rfl (bodyOk_at o33 hb rfl) ha hr h
theorem n34 : Tryz.prog.funcs[34]? = some Tryz.f34 := by kernel_rfl
theorem e34 : entB Tryz.prog 34 = true := by kernel_rfl
theorem o34 : bodyOk (anL []) Tryz.f34 = true := by kernel_rfl
theorem w34 {ct : Ct} (ow : Nat → Bool) (ad : List Adj) {code : Code} (hb : Tryz.f34.body = some code) (hc : CtOk pg ct) {args : List V} {r : V} (ha : Nat.ble args.length 9 = true) (hr : r.noId = true) (h : exec ⟨pg, ct, ow, 9, anL [], true, none⟩ code ⟨argE args, hOf []⟩ (PostF pg.prog ad [.tmp 4] r [])) : PCall pg 34 args r := pcall_inF ad hc fol 34 n34 hb rfl e34 rfl (bodyOk_at o34 hb rfl) ha hr h
theorem n35 : Tryz.prog.funcs[35]? = some Tryz.f35 := by kernel_rfl
theorem e35 : entB Tryz.prog 35 = true := by kernel_rfl
theorem o35 : bodyOk (anL [(1, [0, 1, 3, 7, 0, 16, 63, 0, 255]), (2, [0, 1, 0, 4, 0, 16, 60, 127, 255, 511, 511, 1023, 4095])]) Tryz.f35 = true := by kernel_rfl
theorem w35 {ct : Ct} (ow : Nat → Bool) (ad : List Adj) {code : Code} (hb : Tryz.f35.body = some code) (hc : CtOk pg ct) {args : List V} {r : V} (ha : Nat.ble args.length 53 = true) (hr : r.noId = true) (h : exec ⟨pg, ct, ow, 53, anL [(1, [0, 1, 3, 7, 0, 16, 63, 0, 255]), (2, [0, 1, 0, 4, 0, 16, 60, 127, 255, 511, 511, 1023, 4095])], true, none⟩ code ⟨argE args, hOf []⟩ (PostF pg.prog ad [.cell 4 25, .tmp 5] r [])) : PCall pg 35 args r := pcall_inF ad hc fol 35 n35 hb rfl e35 rfl (bodyOk_at o35 hb rfl) ha hr h
theorem n36 : Tryz.prog.funcs[36]? = some Tryz.f36 := by kernel_rfl
theorem e36 : entB Tryz.prog 36 = true := by kernel_rfl
theorem o36 : bodyOk (anL [(6, [0, 0, 3, 7, 0, 0, 48, 112, 255])]) Tryz.f36 = true := by kernel_rfl
theorem w36 {ct : Ct} (ow : Nat → Bool) (ad : List Adj) {code : Code} (hb : Tryz.f36.body = some code) (hc : CtOk pg ct) {args : List V} {r : V} (ha : Nat.ble args.length 26 = true) (hr : r.noId = true) (h : exec ⟨pg, ct, ow, 26, anL [(6, [0, 0, 3, 7, 0, 0, 48, 112, 255])], true, none⟩ code ⟨argE args, hOf []⟩ (PostF pg.prog ad [.tmp 4] r [])) : PCall pg 36 args r := pcall_inF ad hc fol 36 n36 hb rfl e36 rfl (bodyOk_at o36 hb rfl) ha hr h
theorem n37 : Tryz.prog.funcs[37]? = some Tryz.f37 := by kernel_rfl
theorem e37 : entB Tryz.prog 37 = true := by kernel_rfl
theorem o37 : bodyOk (anL [(6, [0, 0, 3, 7, 0, 0, 48, 112, 255])]) Tryz.f37 = true := by kernel_rfl
theorem w37 {ct : Ct} (ow : Nat → Bool) (ad : List Adj) {code : Code} (hb : Tryz.f37.body = some code) (hc : CtOk pg ct) {args : List V} {r : V} (ha : Nat.ble args.length 26 = true) (hr : r.noId = true) (h : exec ⟨pg, ct, ow, 26, anL [(6, [0, 0, 3, 7, 0, 0, 48, 112, 255])], true, none⟩ code ⟨argE args, hOf []⟩ (PostF pg.prog ad [.tmp 4] r [])) : PCall pg 37 args r := pcall_inF ad hc fol 37 n37 hb rfl e37 rfl (bodyOk_at o37 hb rfl) ha hr h
theorem n38 : Tryz.prog.funcs[38]? = some Tryz.f38 := by kernel_rfl
theorem e38 : entB Tryz.prog 38 = true := by kernel_rfl
theorem o38 : bodyOk (anL []) Tryz.f38 = true := by kernel_rfl
theorem w38 {ct : Ct} (ow : Nat → Bool) (ad : List Adj) {code : Code} (hb : Tryz.f38.body = some code) (hc : CtOk pg ct) {args : List V} {r : V} (ha : Nat.ble args.length 18 = true) (hr : r.noId = true) (h : exec ⟨pg, ct, ow, 18, anL [], true, none⟩ code ⟨argE args, hOf []⟩ (PostF pg.prog ad [.tmp 2] r [])) : PCall pg 38 args r := pcall_inF ad hc fol 38 n38 hb rfl e38 rfl (bodyOk_at o38 hb rfl) ha hr h
theorem n39 : Tryz.prog.funcs[39]? = some Tryz.f39 := by kernel_rfl
theorem e39 : entB Tryz.prog 39 = true := by kernel_rfl
theorem o39 : bodyOk (anL [(1, [0, 1, 3, 0, 8, 31, 63, 127])]) Tryz.f39 = true := by kernel_rfl
theorem w39 {ct : Ct} (ow : Nat → Bool) (ad : List Adj) {code : Code} (hb : Tryz.f39.body = some code) (hc : CtOk pg ct) {args : List V} {r : V} (ha : Nat.ble args.length 52 = true) (hr : r.noId = true) (h : exec ⟨pg, ct, ow, 52, anL [(1, [0, 1, 3, 0, 8, 31, 63, 127])], true, none⟩ code ⟨argE args, hOf []⟩ (PostF pg.prog ad [.tmp 2] r [])) : PCall pg 39 args r := pcall_inF ad hc fol 39 n39 hb rfl e39 rfl (bodyOk_at o39 hb rfl) ha hr h
theorem n40 : Tryz.prog.funcs[40]? = some Tryz.f40 := by kernel_rfl
theorem e40 : entB Tryz.prog 40 = true := by kernel_rfl
theorem o40 : bodyOk (anL []) Tryz.f40 = true := by kernel_rfl
theorem w40 {ct : Ct} (ow : Nat → Bool) (ad : List Adj) {code : Code} (hb : Tryz.f40.body = some code) (hc : CtOk pg ct) {args : List V} {r : V} (ha : Nat.ble args.length 33 = true) (hr : r.noId = true) (h : exec ⟨pg, ct, ow, 33, anL [], true, none⟩ code ⟨argE args, hOf []⟩ (PostF pg.prog ad [.tmp 2, .tmp 3] r [])) : PCall pg 40 args r := pcall_inF ad hc fol 40 n40 hb rfl e40 rfl (bodyOk_at o40 hb rfl) ha hr h
theorem n42 : Tryz.prog.funcs[42]? = some Tryz.f42 := by kernel_rfl
theorem e42 : entB Tryz.prog 42 = true := by kernel_rfl
theorem o42 : bodyOk (anL []) Tryz.f42 = true := by kernel_rfl
theorem w42 {ct : Ct} (ow : Nat → Bool) (ad : List Adj) {code : Code} (hb : Tryz.f42.body = some code) (hc : CtOk pg ct) {args : List V} {r : V} (ha : Nat.ble args.length 8 = true) (hr : r.noId = true) (h : exec ⟨pg, ct, ow, 8, anL [], true, none⟩ code ⟨argE args, hOf []⟩ (PostF pg.prog ad [.tmp 4] r [])) : PCall pg 42 args r := pcall_inF ad hc fol 42 n42 hb rfl e42 rfl (bodyOk_at o42 hb rfl) ha hr h
theorem n43 : Tryz.prog.funcs[43]? = some Tryz.f43 := by kernel_rfl
theorem e43 : entB Tryz.prog 43 = true := by kernel_rfl
theorem o43 : bodyOk (anL []) Tryz.f43 = true := by kernel_rfl
theorem w43 {ct : Ct} (ow : Nat → Bool) (ad : List Adj) {code : Code} (hb : Tryz.f43.body = some code) (hc : CtOk pg ct) {args : List V} {r : V} (ha : Nat.ble args.length 9 = true) (hr : r.noId = true) (h : exec ⟨pg, ct, ow, 9, anL [], true, none⟩ code ⟨argE args, hOf []⟩ (PostF pg.prog ad [.tmp 2] r [])) : PCall pg 43 args r := pcall_inF ad hc fol 43 n43 hb rfl e43 rfl (bodyOk_at o43 hb rfl) ha hr h
theorem n44 : Tryz.prog.funcs[44]? = some Tryz.f44 := by kernel_rfl
theorem e44 : entB Tryz.prog 44 = true := by kernel_rfl
theorem o44 : bodyOk (anL [(2, [0, 0, 2, 6, 14, 31, 63, 127, 0, 256, 769, 2047, 4095, 1793, 0, 16384, 49152, 124673, 255745, 524287, 1048575, 0, 2097152, 6301441, 16777215, 33554431, 0, 67108864, 216016641, 536870911, 1073741823, 0, 2147483648, 6926903041, 17179869183, 34359738367, 0, 68719476736, 221675267841, 549755813887, 1099511627775, 2199023255551])]) Tryz.f44 = true := by kernel_rfl
theorem w44 {ct : Ct} (ow : Nat → Bool) (ad : List Adj) {code : Code} (hb : Tryz.f44.body = some code) (hc : CtOk pg ct) {args : List V} {r : V} (ha : Nat.ble args.length 47 = true) (hr : r.noId = true) (h : exec ⟨pg, ct, ow, 47, anL [(2, [0, 0, 2, 6, 14, 31, 63, 127, 0, 256, 769, 2047, 4095, 1793, 0, 16384, 49152, 124673, 255745, 524287, 1048575, 0, 2097152, 6301441, 16777215, 33554431, 0, 67108864, 216016641, 536870911, 1073741823, 0, 2147483648, 6926903041, 17179869183, 34359738367, 0, 68719476736, 221675267841, 549755813887, 1099511627775, 2199023255551])], true, none⟩ code ⟨argE args, hOf []⟩ (PostF pg.prog ad [.tmp 2] r [])) : PCall pg 44 args r := pcall_inF ad hc fol 44 n44 hb rfl e44 rfl (bodyOk_at o44 hb rfl) ha hr h
theorem n45 : Tryz.prog.funcs[45]? = some Tryz.f45 := by kernel_rfl
theorem e45 : entB Tryz.prog 45 = true := by kernel_rfl
theorem o45 : bodyOk (anL []) Tryz.f45 = true := by kernel_rfl
theorem w45 {ct : Ct} (ow : Nat → Bool) (ad : List Adj) {code : Code} (hb : Tryz.f45.body = some code) (hc : CtOk pg ct) {args : List V} {r : V} (ha : Nat.ble args.length 18 = true) (hr : r.noId = true) (h : exec ⟨pg, ct, ow, 18, anL [], true, none⟩ code ⟨argE args, hOf []⟩ (PostF pg.prog ad [.tmp 4] r [])) : PCall pg 45 args r := pcall_inF ad hc fol 45 n45 hb rfl e45 rfl (bodyOk_at o45 hb rfl) ha hr h
theorem n48 : Tryz.prog.funcs[48]? = some Tryz.f48 := by kernel_rfl
theorem e48 : entB Tryz.prog 48 = true := by kernel_rfl
theorem o48 : bodyOk (anL [(21, [0, 0, 2, 7, 15])]) Tryz.f48 = true := by kernel_rfl
theorem w48 {ct : Ct} (ow : Nat → Bool) (ad : List Adj) {code : Code} (hb : Tryz.f48.body = some code) (hc : CtOk pg ct) {args : List V} {r : V} (ha : Nat.ble args.length 105 = true) (hr : r.noId = true) (h : exec ⟨pg, ct, ow, 105, anL [(21, [0, 0, 2, 7, 15])], true, none⟩ code ⟨argE args, hOf []⟩ (PostF pg.prog ad [.tmp 2] r [])) : PCall pg 48 args r := pcall_inF ad hc fol 48 n48 hb rfl e48 rfl (bodyOk_at o48 hb rfl) ha hr h
theorem n49 : Tryz.prog.funcs[49]? = some Tryz.f49 := by kernel_rfl
theorem e49 : entB Tryz.prog 49 = true := by kernel_rfl
theorem o49 : bodyOk (anL []) Tryz.f49 = true := by kernel_rfl
theorem fw49 {ct : Ct} (ow : Nat → Bool) (ad : List Adj) {code : Code} (hb : Tryz.f49.body = some code) (hc : CtOk pg ct) {args : List V} {hl hl' : HL} {r : V} (ha : Nat.ble args.length 12 = true) (hlo : ∀ p ∈ hl, 9000 ≤ p.1) (hin : hlIn (idsIn hl) hl') (hr : V.menIn (idsIn hl) r = true) (h : exec ⟨pg, ct, ow, 12, anL [], true, none⟩ code ⟨argE args, hOf hl⟩ (PostF pg.prog ad [] r hl')) : FCall pg 49 args hl r hl' := fcall_inF ad hc fol 49 n49 hb rfl e49 rfl (bodyOk_at o49 hb rfl) ha hlo hin hr h
theorem n50 : Tryz.prog.funcs[50]? = some Tryz.f50 := by kernel_rfl
theorem e50 : entB Tryz.prog 50 = true := by kernel_rfl
theorem o50 : bodyOk (anL []) Tryz.f50 = true := by kernel_rfl
theorem w50 {ct : Ct} (ow : Nat → Bool) (ad : List Adj) {code : Code} (hb : Tryz.f50.body = some code) (hc : CtOk pg ct) {args : List V} {r : V} (ha : Nat.ble args.length 2 = true) (hr : r.noId = true) (h : exec ⟨pg, ct, ow, 2, anL [], true, none⟩ code ⟨argE args, hOf []⟩ (PostF pg.prog ad [.tmp 0] r [])) : PCall pg 50 args r := pcall_inF ad hc fol 50 n50 hb rfl e50 rfl (bodyOk_at o50 hb rfl) ha hr h
theorem n52 : Tryz.prog.funcs[52]? = some Tryz.f52 := by kernel_rfl
theorem e52 : entB Tryz.prog 52 = true := by kernel_rfl
theorem o52 : bodyOk (anL [(10, [0, 0, 2, 7, 0, 0, 32, 0, 0, 384, 992, 2016, 4095, 8191, 16383])]) Tryz.f52 = true := by kernel_rfl
theorem w52 {ct : Ct} (ow : Nat → Bool) (ad : List Adj) {code : Code} (hb : Tryz.f52.body = some code) (hc : CtOk pg ct) {args : List V} {r : V} (ha : Nat.ble args.length 52 = true) (hr : r.noId = true) (h : exec ⟨pg, ct, ow, 52, anL [(10, [0, 0, 2, 7, 0, 0, 32, 0, 0, 384, 992, 2016, 4095, 8191, 16383])], true, none⟩ code ⟨argE args, hOf []⟩ (PostF pg.prog ad [.tmp 2, .tmp 3, .tmp 4, .tmp 5] r [])) : PCall pg 52 args r := pcall_inF ad hc fol 52 n52 hb rfl e52 rfl (bodyOk_at o52 hb rfl) ha hr h
theorem n53 : Tryz.prog.funcs[53]? = some Tryz.f53 := by kernel_rfl
theorem e53 : entB Tryz.prog 53 = true := by kernel_rfl
theorem o53 : bodyOk (anL []) Tryz.f53 = true := by kernel_rfl
theorem w53 {ct : Ct} (ow : Nat → Bool) (ad : List Adj) {code : Code} (hb : Tryz.f53.body = some code) (hc : CtOk pg ct) {args : List V} {r : V} (ha : Nat.ble args.length 17 = true) (hr : r.noId = true) (h : exec ⟨pg, ct, ow, 17, anL [], true, none⟩ code ⟨argE args, hOf []⟩ (PostF pg.prog ad [.cell 4 27, .tmp 5] r [])) : PCall pg 53 args r := pcall_inF ad hc fol 53 n53 hb rfl e53 rfl (bodyOk_at o53 hb rfl) ha hr h
theorem n54 : Tryz.prog.funcs[54]? = some Tryz.f54 := by kernel_rfl
theorem e54 : entB Tryz.prog 54 = true := by kernel_rfl
theorem o54 : bodyOk (anL []) Tryz.f54 = true := by kernel_rfl
theorem w54 {ct : Ct} (ow : Nat → Bool) (ad : List Adj) {code : Code} (hb : Tryz.f54.body = some code) (hc : CtOk pg ct) {args : List V} {r : V} (ha : Nat.ble args.length 9 = true) (hr : r.noId = true) (h : exec ⟨pg, ct, ow, 9, anL [], true, none⟩ code ⟨argE args, hOf []⟩ (PostF pg.prog ad [.tmp 4] r [])) : PCall pg 54 args r := pcall_inF ad hc fol 54 n54 hb rfl e54 rfl (bodyOk_at o54 hb rfl) ha hr h
theorem n55 : Tryz.prog.funcs[55]? = some Tryz.f55 := by kernel_rfl
theorem e55 : entB Tryz.prog 55 = true := by kernel_rfl
theorem o55 : bodyOk (anL [(4, [0, 1, 3, 0, 8, 31, 31, 127, 255, 511]), (18, [0, 0, 2, 0, 14, 30, 62, 126, 0, 0, 512, 0, 3584, 7680, 15872, 32510, 65534, 0, 131072, 524286, 1048575]), (25, [0, 1, 0, 0, 12, 28, 60, 124, 255, 511, 1023])]) Tryz.f55 = true := by kernel_rfl
theorem w55 {ct : Ct} (ow : Nat → Bool) (ad : List Adj) {code : Code} (hb : Tryz.f55.body = some code) (hc : CtOk pg ct) {args : List V} {r : V} (ha : Nat.ble args.length 145 = true) (hr : r.noId = true) (h : exec ⟨pg, ct, ow, 145, anL [(4, [0, 1, 3, 0, 8, 31, 31, 127, 255, 511]), (18, [0, 0, 2, 0, 14, 30, 62, 126, 0, 0, 512, 0, 3584, 7680, 15872, 32510, 65534, 0, 131072, 524286, 1048575]), (25, [0, 1, 0, 0, 12, 28, 60, 124, 255, 511, 1023])], true, none⟩ code ⟨argE args, hOf []⟩ (PostF pg.prog ad [.cell 4 27, .tmp 5] r [])) : PCall pg 55 args r := pcall_inF ad hc fol 55 n55 hb rfl e55 rfl (bodyOk_at o55 hb rfl) ha hr h
theorem n56 : Tryz.prog.funcs[56]? = some Tryz.f56 := by kernel_rfl
theorem e56 : entB Tryz.prog 56 = true := by kernel_rfl
theorem o56 : bodyOk (anL []) Tryz.f56 = true := by kernel_rfl
theorem w56 {ct : Ct} (ow : Nat → Bool) (ad : List Adj) {code : Code} (hb : Tryz.f56.body = some code) (hc : CtOk pg ct) {args : List V} {r : V} (ha : Nat.ble args.length 151 = true) (hr : r.noId = true) (h : exec ⟨pg, ct, ow, 151, anL [], true, none⟩ code ⟨argE args, hOf []⟩ (PostF pg.prog ad [.cell 2 25, .tmp 3, .tmp 4, .tmp 5] r [])) : PCall pg 56 args r := pcall_inF ad hc fol 56 n56 hb rfl e56 rfl (bodyOk_at o56 hb rfl) ha hr h
theorem n57 : Tryz.prog.funcs[57]? = some Tryz.f57 := by kernel_rfl
theorem e57 : entB Tryz.prog 57 = true := by kernel_rfl
theorem o57 : bodyOk (anL []) Tryz.f57 = true := by kernel_rfl
theorem w57 {ct : Ct} (ow : Nat → Bool) (ad : List Adj) {code : Code} (hb : Tryz.f57.body = some code) (hc : CtOk pg ct) {args : List V} {r : V} (ha : Nat.ble args.length 84 = true) (hr : r.noId = true) (h : exec ⟨pg, ct, ow, 84, anL [], true, none⟩ code ⟨argE args, hOf []⟩ (PostF pg.prog ad [.cell 2 117, .tmp 3, .tmp 4] r [])) : PCall pg 57 args r := pcall_inF ad hc fol 57 n57 hb rfl e57 rfl (bodyOk_at o57 hb rfl) ha hr h
theorem n58 : Tryz.prog.funcs[58]? = some Tryz.f58 := by kernel_rfl
theorem e58 : entB Tryz.prog 58 = true := by kernel_rfl
theorem o58 : bodyOk (anL []) Tryz.f58 = true := by kernel_rfl
theorem w58 {ct : Ct} (ow : Nat → Bool) (ad : List Adj) {code : Code} (hb : Tryz.f58.body = some code) (hc : CtOk pg ct) {args : List V} {r : V} (ha : Nat.ble args.length 26 = true) (hr : r.noId = true) (h : exec ⟨pg, ct, ow, 26, anL [], true, none⟩ code ⟨argE args, hOf []⟩ (PostF pg.prog ad [.tmp 4] r [])) : PCall pg 58 args r := pcall_inF ad hc fol 58 n58 hb rfl e58 rfl (bodyOk_at o58 hb rfl) ha hr h
theorem n59 : Tryz.prog.funcs[59]? = some Tryz.f59 := by kernel_rfl
theorem e59 : entB Tryz.prog 59 = true := by kernel_rfl
theorem o59 : bodyOk (anL [(17, [0, 1, 3, 7, 7, 7, 39, 119, 247, 7, 7, 1543, 3591, 8191, 16383, 32767, 65535])]) Tryz.f59 = true := by kernel_rfl
theorem w59 {ct : Ct} (ow : Nat → Bool) (ad : List Adj) {code : Code} (hb : Tryz.f59.body = some code) (hc : CtOk pg ct) {args : List V} {r : V} (ha : Nat.ble args.length 148 = true) (hr : r.noId = true) (h : exec ⟨pg, ct, ow, 148, anL [(17, [0, 1, 3, 7, 7, 7, 39, 119, 247, 7, 7, 1543, 3591, 8191, 16383, 32767, 65535])], true, none⟩ code ⟨argE args, hOf []⟩ (PostF pg.prog ad [] r [])) : PCall pg 59 args r := pcall_inF ad hc fol 59 n59 hb rfl e59 rfl (bodyOk_at o59 hb rfl) ha hr h
theorem n60 : Tryz.prog.funcs[60]? = some Tryz.f60 := by kernel_rfl
theorem e60 : entB Tryz.prog 60 = true := by kernel_rfl
theorem o60 : bodyOk (anL []) Tryz.f60 = true := by kernel_rfl
theorem w60 {ct : Ct} (ow : Nat → Bool) (ad : List Adj) {code : Code} (hb : Tryz.f60.body = some code) (hc : CtOk pg ct) {args : List V} {r : V} (ha : Nat.ble args.length 8 = true) (hr : r.noId = true) (h : exec ⟨pg, ct, ow, 8, anL [], true, none⟩ code ⟨argE args, hOf []⟩ (PostF pg.prog ad [.tmp 2] r [])) : PCall pg 60 args r := pcall_inF ad hc fol 60 n60 hb rfl e60 rfl (bodyOk_at o60 hb rfl) ha hr h
theorem n64 : Tryz.prog.funcs[64]? = some Tryz.f64 := by kernel_rfl
theorem e64 : entB Tryz.prog 64 = true := by kernel_rfl
theorem o64 : bodyOk (anL []) Tryz.f64 = true := by kernel_rfl
theorem w64 {ct : Ct} (ow : Nat → Bool) (ad : List Adj) {code : Code} (hb : Tryz.f64.body = some code) (hc : CtOk pg ct) {args : List V} {r : V} (ha : Nat.ble args.length 28 = true) (hr : r.noId = true) (h : exec ⟨pg, ct, ow, 28, anL [], true, none⟩ code ⟨argE args, hOf []⟩ (PostF pg.prog ad [.tmp 2] r [])) : PCall pg 64 args r := pcall_inF ad hc fol 64 n64 hb rfl e64 rfl (bodyOk_at o64 hb rfl) ha hr h
theorem n65 : Tryz.prog.funcs[65]? = some Tryz.f65 := by kernel_rfl
theorem e65 : entB Tryz.prog 65 = true := by kernel_rfl
theorem o65 : bodyOk (anL []) Tryz.f65 = true := by kernel_rfl
theorem w65 {ct : Ct} (ow : Nat → Bool) (ad : List Adj) {code : Code} (hb : Tryz.f65.body = some code) (hc : CtOk pg ct) {args : List V} {r : V} (ha : Nat.ble args.length 9 = true) (hr : r.noId = true) (h : exec ⟨pg, ct, ow, 9, anL [], true, none⟩ code ⟨argE args, hOf []⟩ (PostF pg.prog ad [.tmp 2] r [])) : PCall pg 65 args r := pcall_inF ad hc fol 65 n65 hb rfl e65 rfl (bodyOk_at o65 hb rfl) ha hr h
theorem n66 : Tryz.prog.funcs[66]? = some Tryz.f66 := by kernel_rfl
theorem e66 : entB Tryz.prog 66 = true := by kernel_rfl
theorem o66 : bodyOk (anL []) Tryz.f66 = true := by kernel_rfl
theorem w66 {ct : Ct} (ow : Nat → Bool) (ad : List Adj) {code : Code} (hb : Tryz.f66.body = some code) (hc : CtOk pg ct) {args : List V} {r : V} (ha : Nat.ble args.length 28 = true) (hr : r.noId = true) (h : exec ⟨pg, ct, ow, 28, anL [], true, none⟩ code ⟨argE args, hOf []⟩ (PostF pg.prog ad [.cell 8 47, .tmp 9] r [])) : PCall pg 66 args r := pcall_inF ad hc fol 66 n66 hb rfl e66 rfl (bodyOk_at o66 hb rfl) ha hr h
theorem n67 : Tryz.prog.funcs[67]? = some Tryz.f67 := by kernel_rfl
theorem e67 : entB Tryz.prog 67 = true := by kernel_rfl
theorem o67 : bodyOk (anL []) Tryz.f67 = true := by kernel_rfl
theorem w67 {ct : Ct} (ow : Nat → Bool) (ad : List Adj) {code : Code} (hb : Tryz.f67.body = some code) (hc : CtOk pg ct) {args : List V} {r : V} (ha : Nat.ble args.length 14 = true) (hr : r.noId = true) (h : exec ⟨pg, ct, ow, 14, anL [], true, none⟩ code ⟨argE args, hOf []⟩ (PostF pg.prog ad [.tmp 4] r [])) : PCall pg 67 args r := pcall_inF ad hc fol 67 n67 hb rfl e67 rfl (bodyOk_at o67 hb rfl) ha hr h
theorem n68 : Tryz.prog.funcs[68]? = some Tryz.f68 := by kernel_rfl
theorem e68 : entB Tryz.prog 68 = true := by kernel_rfl
theorem o68 : bodyOk (anL [(13, [0, 1, 3, 7, 7, 23, 63, 127, 255, 7, 519, 2047, 7, 7, 8199, 28679, 61447, 126983, 7, 262151, 1048575, 2097151, 4194303, 8388607, 16777215, 33554431])]) Tryz.f68 = true := by kernel_rfl
theorem w68 {ct : Ct} (ow : Nat → Bool) (ad : List Adj) {code : Code} (hb : Tryz.f68.body = some code) (hc : CtOk pg ct) {args : List V} {r : V} (ha : Nat.ble args.length 76 = true) (hr : r.noId = true) (h : exec ⟨pg, ct, ow, 76, anL [(13, [0, 1, 3, 7, 7, 23, 63, 127, 255, 7, 519, 2047, 7, 7, 8199, 28679, 61447, 126983, 7, 262151, 1048575, 2097151, 4194303, 8388607, 16777215, 33554431])], true, none⟩ code ⟨argE args, hOf []⟩ (PostF pg.prog ad [.tmp 2] r [])) : PCall pg 68 args r := pcall_inF ad hc fol 68 n68 hb rfl e68 rfl (bodyOk_at o68 hb rfl) ha hr h
theorem n69 : Tryz.prog.funcs[69]? = some Tryz.f69 := by kernel_rfl
theorem e69 : entB Tryz.prog 69 = true := by kernel_rfl
theorem o69 : bodyOk (anL [(10, [0, 0, 2, 7, 15, 0, 63, 127])]) Tryz.f69 = true := by kernel_rfl
theorem w69 {ct : Ct} (ow : Nat → Bool) (ad : List Adj) {code : Code} (hb : Tryz.f69.body = some code) (hc : CtOk pg ct) {args : List V} {r : V} (ha : Nat.ble args.length 38 = true) (hr : r.noId = true) (h : exec ⟨pg, ct, ow, 38, anL [(10, [0, 0, 2, 7, 15, 0, 63, 127])], true, none⟩ code ⟨argE args, hOf []⟩ (PostF pg.prog ad [.tmp 2] r [])) : PCall pg 69 args r := pcall_inF ad hc fol 69 n69 hb rfl e69 rfl (bodyOk_at o69 hb rfl) ha hr h
theorem n70 : Tryz.prog.funcs[70]? = some Tryz.f70 := by kernel_rfl
theorem e70 : entB Tryz.prog 70 = true := by kernel_rfl
theorem o70 : bodyOk (anL []) Tryz.f70 = true := by kernel_rfl
theorem w70 {ct : Ct} (ow : Nat → Bool) (ad : List Adj) {code : Code} (hb : Tryz.f70.body = some code) (hc : CtOk pg ct) {args : List V} {r : V} (ha : Nat.ble args.length 28 = true) (hr : r.noId = true) (h : exec ⟨pg, ct, ow, 28, anL [], true, none⟩ code ⟨argE args, hOf []⟩ (PostF pg.prog ad [.cell 4 27, .tmp 5] r [])) : PCall pg 70 args r := pcall_inF ad hc fol 70 n70 hb rfl e70 rfl (bodyOk_at o70 hb rfl) ha hr h
theorem n71 : Tryz.prog.funcs[71]? = some Tryz.f71 := by kernel_rfl
theorem e71 : entB Tryz.prog 71 = true := by kernel_rfl
theorem o71 : bodyOk (anL [(4, [0, 0, 0, 6, 14, 31])]) Tryz.f71 = true := by kernel_rfl
theorem w71 {ct : Ct} (ow : Nat → Bool) (ad : List Adj) {code : Code} (hb : Tryz.f71.body = some code) (hc : CtOk pg ct) {args : List V} {r : V} (ha : Nat.ble args.length 19 = true) (hr : r.noId = true) (h : exec ⟨pg, ct, ow, 19, anL [(4, [0, 0, 0, 6, 14, 31])], true, none⟩ code ⟨argE args, hOf []⟩ (PostF pg.prog ad [.tmp 4] r [])) : PCall pg 71 args r := pcall_inF ad hc fol 71 n71 hb rfl e71 rfl (bodyOk_at o71 hb rfl) ha hr h
theorem n72 : Tryz.prog.funcs[72]? = some Tryz.f72 := by kernel_rfl
theorem e72 : entB Tryz.prog 72 = true := by kernel_rfl
theorem o72 : bodyOk (anL []) Tryz.f72 = true := by kernel_rfl
theorem w72 {ct : Ct} (ow : Nat → Bool) (ad : List Adj) {code : Code} (hb : Tryz.f72.body = some code) (hc : CtOk pg ct) {args : List V} {r : V} (ha : Nat.ble args.length 35 = true) (hr : r.noId = true) (h : exec ⟨pg, ct, ow, 35, anL [], true, none⟩ code ⟨argE args, hOf []⟩ (PostF pg.prog ad [.tmp 2] r [])) : PCall pg 72 args r := pcall_inF ad hc fol 72 n72 hb rfl e72 rfl (bodyOk_at o72 hb rfl) ha hr h
theorem n73 : Tryz.prog.funcs[73]? = some Tryz.f73 := by kernel_rfl
theorem e73 : entB Tryz.prog 73 = true := by kernel_rfl
theorem o73 : bodyOk (anL []) Tryz.f73 = true := by kernel_rfl
theorem w73 {ct : Ct} (ow : Nat → Bool) (ad : List Adj) {code : Code} (hb : Tryz.f73.body = some code) (hc : CtOk pg ct) {args : List V} {r : V} (ha : Nat.ble args.length 23 = true) (hr : r.noId = true) (h : exec ⟨pg, ct, ow, 23, anL [], true, none⟩ code ⟨argE args, hOf []⟩ (PostF pg.prog ad [.tmp 2] r [])) : PCall pg 73 args r := pcall_inF ad hc fol 73 n73 hb rfl e73 rfl (bodyOk_at o73 hb rfl) ha hr h
theorem n74 : Tryz.prog.funcs[74]? = some Tryz.f74 := by kernel_rfl
theorem e74 : entB Tryz.prog 74 = true := by kernel_rfl
theorem o74 : bodyOk (anL []) Tryz.f74 = true := by kernel_rfl
theorem w74 {ct : Ct} (ow : Nat → Bool) (ad : List Adj) {code : Code} (hb : Tryz.f74.body = some code) (hc : CtOk pg ct) {args : List V} {r : V} (ha : Nat.ble args.length 26 = true) (hr : r.noId = true) (h : exec ⟨pg, ct, ow, 26, anL [], true, none⟩ code ⟨argE args, hOf []⟩ (PostF pg.prog ad [.tmp 4] r [])) : PCall pg 74 args r := pcall_inF ad hc fol 74 n74 hb rfl e74 rfl (bodyOk_at o74 hb rfl) ha hr h
theorem n75 : Tryz.prog.funcs[75]? = some Tryz.f75 := by kernel_rfl
theorem e75 : entB Tryz.prog 75 = true := by kernel_rfl
theorem o75 : bodyOk (anL []) Tryz.f75 = true := by kernel_rfl
theorem w75 {ct : Ct} (ow : Nat → Bool) (ad : List Adj) {code : Code} (hb : Tryz.f75.body = some code) (hc : CtOk pg ct) {args : List V} {r : V} (ha : Nat.ble args.length 28 = true) (hr : r.noId = true) (h : exec ⟨pg, ct, ow, 28, anL [], true, none⟩ code ⟨argE args, hOf []⟩ (PostF pg.prog ad [.tmp 4] r [])) : PCall pg 75 args r := pcall_inF ad hc fol 75 n75 hb rfl e75 rfl (bodyOk_at o75 hb rfl) ha hr h
theorem n77 : Tryz.prog.funcs[77]? = some Tryz.f77 := by kernel_rfl
theorem e77 : entB Tryz.prog 77 = true := by kernel_rfl
theorem o77 : bodyOk (anL []) Tryz.f77 = true := by kernel_rfl
theorem w77 {ct : Ct} (ow : Nat → Bool) (ad : List Adj) {code : Code} (hb : Tryz.f77.body = some code) (hc : CtOk pg ct) {args : List V} {r : V} (ha : Nat.ble args.length 54 = true) (hr : r.noId = true) (h : exec ⟨pg, ct, ow, 54, anL [], true, none⟩ code ⟨argE args, hOf []⟩ (PostF pg.prog ad [.tmp 4] r [])) : PCall pg 77 args r := pcall_inF ad hc fol 77 n77 hb rfl e77 rfl (bodyOk_at o77 hb rfl) ha hr h
theorem n78 : Tryz.prog.funcs[78]? = some Tryz.f78 := by kernel_rfl
theorem e78 : entB Tryz.prog 78 = true := by kernel_rfl
theorem o78 : bodyOk (anL []) Tryz.f78 = true := by kernel_rfl
theorem w78 {ct : Ct} (ow : Nat → Bool) (ad : List Adj) {code : Code} (hb : Tryz.f78.body = some code) (hc : CtOk pg ct) {args : List V} {r : V} (ha : Nat.ble args.length 58 = true) (hr : r.noId = true) (h : exec ⟨pg, ct, ow, 58, anL [], true, none⟩ code ⟨argE args, hOf []⟩ (PostF pg.prog ad [.cell 2 146] r [])) : PCall pg 78 args r := pcall_inF ad hc fol 78 n78 hb rfl e78 rfl (bodyOk_at o78 hb rfl) ha hr h
theorem n79 : Tryz.prog.funcs[79]? = some Tryz.f79 := by kernel_rfl
theorem e79 : entB Tryz.prog 79 = true := by kernel_rfl
theorem o79 : bodyOk (anL []) Tryz.f79 = true := by kernel_rfl
theorem w79 {ct : Ct} (ow : Nat → Bool) (ad : List Adj) {code : Code} (hb : Tryz.f79.body = some code) (hc : CtOk pg ct) {args : List V} {r : V} (ha : Nat.ble args.length 2 = true) (hr : r.noId = true) (h : exec ⟨pg, ct, ow, 2, anL [], true, none⟩ code ⟨argE args, hOf []⟩ (PostF pg.prog ad [.tmp 0] r [])) : PCall pg 79 args r := pcall_inF ad hc fol 79 n79 hb rfl e79 rfl (bodyOk_at o79 hb rfl) ha hr h
theorem n80 : Tryz.prog.funcs[80]? = some Tryz.f80 := by kernel_rfl
theorem e80 : entB Tryz.prog 80 = true := by kernel_rfl
theorem o80 : bodyOk (anL []) Tryz.f80 = true := by kernel_rfl
theorem w80 {ct : Ct} (ow : Nat → Bool) (ad : List Adj) {code : Code} (hb : Tryz.f80.body = some code) (hc : CtOk pg ct) {args : List V} {r : V} (ha : Nat.ble args.length 16 = true) (hr : r.noId = true) (h : exec ⟨pg, ct, ow, 16, anL [], true, none⟩ code ⟨argE args, hOf []⟩ (PostF pg.prog ad [.tmp 4] r [])) : PCall pg 80 args r := pcall_inF ad hc fol 80 n80 hb rfl e80 rfl (bodyOk_at o80 hb rfl) ha hr h
theorem n81 : Tryz.prog.funcs[81]? = some Tryz.f81 := by kernel_rfl
theorem e81 : entB Tryz.prog 81 = true := by kernel_rfl
theorem o81 : bodyOk (anL []) Tryz.f81 = true := by kernel_rfl
theorem w81 {ct : Ct} (ow : Nat → Bool) (ad : List Adj) {code : Code} (hb : Tryz.f81.body = some code) (hc : CtOk pg ct) {args : List V} {r : V} (ha : Nat.ble args.length 2 = true) (hr : r.noId = true) (h : exec ⟨pg, ct, ow, 2, anL [], true, none⟩ code ⟨argE args, hOf []⟩ (PostF pg.prog ad [.tmp 0] r [])) : PCall pg 81 args r := pcall_inF ad hc fol 81 n81 hb rfl e81 rfl (bodyOk_at o81 hb rfl) ha hr h
theorem n85 : Tryz.prog.funcs[85]? = some Tryz.f85 := by kernel_rfl
theorem e85 : entB Tryz.prog 85 = true := by kernel_rfl
theorem o85 : bodyOk (anL []) Tryz.f85 = true := by kernel_rfl
theorem w85 {ct : Ct} (ow : Nat → Bool) (ad : List Adj) {code : Code} (hb : Tryz.f85.body = some code) (hc : CtOk pg ct) {args : List V} {r : V} (ha : Nat.ble args.length 2 = true) (hr : r.noId = true) (h : exec ⟨pg, ct, ow, 2, anL [], true, none⟩ code ⟨argE args, hOf []⟩ (PostF pg.prog ad [.tmp 0] r [])) : PCall pg 85 args r := pcall_inF ad hc fol 85 n85 hb rfl e85 rfl (bodyOk_at o85 hb rfl) ha hr h
theorem n86 : Tryz.prog.funcs[86]? = some Tryz.f86 := by kernel_rfl
theorem e86 : entB Tryz.prog 86 = true := by kernel_rfl
theorem o86 : bodyOk (anL []) Tryz.f86 = true := by kernel_rfl
theorem w86 {ct : Ct} (ow : Nat → Bool) (ad : List Adj) {code : Code} (hb : Tryz.f86.body = some code) (hc : CtOk pg ct) {args : List V} {r : V} (ha : Nat.ble args.length 30 = true) (hr : r.noId = true) (h : exec ⟨pg, ct, ow, 30, anL [], true, none⟩ code ⟨argE args, hOf []⟩ (PostF pg.prog ad [.tmp 2] r [])) : PCall pg 86 args r := pcall_inF ad hc fol 86 n86 hb rfl e86 rfl (bodyOk_at o86 hb rfl) ha hr h
theorem n94 : Tryz.prog.funcs[94]? = some Tryz.f94 := by kernel_rfl
theorem e94 : entB Tryz.prog 94 = true := by kernel_rfl
theorem o94 : bodyOk (anL [(3, [0, 0, 2, 6, 14, 1, 63, 127]), (4, [0, 1, 3, 7, 0, 16, 48, 112, 255, 511]), (10, [0, 1, 3, 7, 15, 31, 0, 64, 192, 448, 1023]), (11, [0, 0, 2, 6, 14, 1, 63, 127])]) Tryz.f94 = true := by kernel_rfl
theorem w94 {ct : Ct} (ow : Nat → Bool) (ad : List Adj) {code : Code} (hb : Tryz.f94.body = some code) (hc : CtOk pg ct) {args : List V} {r : V} (ha : Nat.ble args.length 92 = true) (hr : r.noId = true) (h : exec ⟨pg, ct, ow, 92, anL [(3, [0, 0, 2, 6, 14, 1, 63, 127]), (4, [0, 1, 3, 7, 0, 16, 48, 112, 255, 511]), (10, [0, 1, 3, 7, 15, 31, 0, 64, 192, 448, 1023]), (11, [0, 0, 2, 6, 14, 1, 63, 127])], true, none⟩ code ⟨argE args, hOf []⟩ (PostF pg.prog ad [.cell 4 27, .tmp 5, .tmp 6] r [])) : PCall pg 94 args r := pcall_inF ad hc fol 94 n94 hb rfl e94 rfl (bodyOk_at o94 hb rfl) ha hr h
theorem n95 : Tryz.prog.funcs[95]? = some Tryz.f95 := by kernel_rfl
theorem e95 : entB Tryz.prog 95 = true := by kernel_rfl
theorem o95 : bodyOk (anL []) Tryz.f95 = true := by kernel_rfl
theorem fw95 {ct : Ct} (ow : Nat → Bool) (ad : List Adj) {code : Code} (hb : Tryz.f95.body = some code) (hc : CtOk pg ct) {args : List V} {hl hl' : HL} {r : V} (ha : Nat.ble args.length 19 = true) (hlo : ∀ p ∈ hl, 9000 ≤ p.1) (hin : hlIn (idsIn hl) hl') (hr : V.menIn (idsIn hl) r = true) (h : exec ⟨pg, ct, ow, 19, anL [], true, none⟩ code ⟨argE args, hOf hl⟩ (PostF pg.prog ad [.tmp 4] r hl')) : FCall pg 95 args hl r hl' := fcall_inF ad hc fol 95 n95 hb rfl e95 rfl (bodyOk_at o95 hb rfl) ha hlo hin hr h
theorem n96 : Tryz.prog.funcs[96]? = some Tryz.f96 := by kernel_rfl
theorem e96 : entB Tryz.prog 96 = true := by kernel_rfl
theorem o96 : bodyOk (anL []) Tryz.f96 = true := by kernel_rfl
theorem fw96 {ct : Ct} (ow : Nat → Bool) (ad : List Adj) {code : Code} (hb : Tryz.f96.body = some code) (hc : CtOk pg ct) {args : List V} {hl hl' : HL} {r : V} (ha : Nat.ble args.length 8 = true) (hlo : ∀ p ∈ hl, 9000 ≤ p.1) (hin : hlIn (idsIn hl) hl') (hr : V.menIn (idsIn hl) r = true) (h : exec ⟨pg, ct, ow, 8, anL [], true, none⟩ code ⟨argE args, hOf hl⟩ (PostF pg.prog ad [.tmp 3] r hl')) : FCall pg 96 args hl r hl' := fcall_inF ad hc fol 96 n96 hb rfl e96 rfl (bodyOk_at o96 hb rfl) ha hlo hin hr h
theorem n97 : Tryz.prog.funcs[97]? = some Tryz.f97 := by kernel_rfl
theorem e97 : entB Tryz.prog 97 = true := by kernel_rfl
theorem o97 : bodyOk (anL []) Tryz.f97 = true := by kernel_rfl
theorem w97 {ct : Ct} (ow : Nat → Bool) (ad : List Adj) {code : Code} (hb : Tryz.f97.body = some code) (hc : CtOk pg ct) {args : List V} {r : V} (ha : Nat.ble args.length 19 = true) (hr : r.noId = true) (h : exec ⟨pg, ct, ow, 19, anL [], true, none⟩ code ⟨argE args, hOf []⟩ (PostF pg.prog ad [.tmp 4] r [])) : PCall pg 97 args r := pcall_inF ad hc fol 97 n97 hb rfl e97 rfl (bodyOk_at o97 hb rfl) ha hr h
theorem n98 : Tryz.prog.funcs[98]? = some Tryz.f98 := by kernel_rfl
theorem e98 : entB Tryz.prog 98 = true := by kernel_rfl
theorem o98 : bodyOk (anL []) Tryz.f98 = true := by kernel_rfl
theorem w98 {ct : Ct} (ow : Nat → Bool) (ad : List Adj) {code : Code} (hb : Tryz.f98.body = some code) (hc : CtOk pg ct) {args : List V} {r : V} (ha : Nat.ble args.length 8 = true) (hr : r.noId = true) (h : exec ⟨pg, ct, ow, 8, anL [], true, none⟩ code ⟨argE args, hOf []⟩ (PostF pg.prog ad [.tmp 2] r [])) : PCall pg 98 args r := pcall_inF ad hc fol 98 n98 hb rfl e98 rfl (bodyOk_at o98 hb rfl) ha hr h
theorem n99 : Tryz.prog.funcs[99]? = some Tryz.f99 := by kernel_rfl
theorem e99 : entB Tryz.prog 99 = true := by kernel_rfl
theorem o99 : bodyOk (anL []) Tryz.f99 = true := by kernel_rfl
theorem w99 {ct : Ct} (ow : Nat → Bool) (ad : List Adj) {code : Code} (hb : Tryz.f99.body = some code) (hc : CtOk pg ct) {args : List V} {r : V} (ha : Nat.ble args.length 8 = true) (hr : r.noId = true) (h : exec ⟨pg, ct, ow, 8, anL [], true, none⟩ code ⟨argE args, hOf []⟩ (PostF pg.prog ad [.tmp 2] r [])) : PCall pg 99 args r := pcall_inF ad hc fol 99 n99 hb rfl e99 rfl (bodyOk_at o99 hb rfl) ha hr h
theorem n100 : Tryz.prog.funcs[100]? = some Tryz.f100 := by kernel_rfl
theorem e100 : entB Tryz.prog 100 = true := by kernel_rfl
theorem o100 : bodyOk (anL []) Tryz.f100 = true := by kernel_rfl
theorem w100 {ct : Ct} (ow : Nat → Bool) (ad : List Adj) {code : Code} (hb : Tryz.f100.body = some code) (hc : CtOk pg ct) {args : List V} {r : V} (ha : Nat.ble args.length 9 = true) (hr : r.noId = true) (h : exec ⟨pg, ct, ow, 9, anL [], true, none⟩ code ⟨argE args, hOf []⟩ (PostF pg.prog ad [.tmp 4] r [])) : PCall pg 100 args r := pcall_inF ad hc fol 100 n100 hb rfl e100 rfl (bodyOk_at o100 hb rfl) ha hr h
theorem n103 : Tryz.prog.funcs[103]? = some Tryz.f103 := by kernel_rfl
theorem e103 : entB Tryz.prog 103 = true := by kernel_rfl
theorem o103 : bodyOk (anL []) Tryz.f103 = true := by kernel_rfl
theorem w103 {ct : Ct} (ow : Nat → Bool) (ad : List Adj) {code : Code} (hb : Tryz.f103.body = some code) (hc : CtOk pg ct) {args : List V} {r : V} (ha : Nat.ble args.length 67 = true) (hr : r.noId = true) (h : exec ⟨pg, ct, ow, 67, anL [], true, none⟩ code ⟨argE args, hOf []⟩ (PostF pg.prog ad [.cell 2 25, .tmp 3, .tmp 4] r [])) : PCall pg 103 args r := pcall_inF ad hc fol 103 n103 hb rfl e103 rfl (bodyOk_at o103 hb rfl) ha hr h
theorem n104 : Tryz.prog.funcs[104]? = some Tryz.f104 := by kernel_rfl
theorem e104 : entB Tryz.prog 104 = true := by kernel_rfl
theorem o104 : bodyOk (anL []) Tryz.f104 = true := by kernel_rfl
theorem w104 {ct : Ct} (ow : Nat → Bool) (ad : List Adj) {code : Code} (hb : Tryz.f104.body = some code) (hc : CtOk pg ct) {args : List V} {r : V} (ha : Nat.ble args.length 62 = true) (hr : r.noId = true) (h : exec ⟨pg, ct, ow, 62, anL [], true, none⟩ code ⟨argE args, hOf []⟩ (PostF pg.prog ad [.tmp 2, .tmp 3, .tmp 4, .tmp 5] r [])) : PCall pg 104 args r := pcall_inF ad hc fol 104 n104 hb rfl e104 rfl (bodyOk_at o104 hb rfl) ha hr h
theorem n105 : Tryz.prog.funcs[105]? = some Tryz.f105 := by kernel_rfl
theorem e105 : entB Tryz.prog 105 = true := by kernel_rfl
theorem o105 : bodyOk (anL []) Tryz.f105 = true := by kernel_rfl
theorem w105 {ct : Ct} (ow : Nat → Bool) (ad : List Adj) {code : Code} (hb : Tryz.f105.body = some code) (hc : CtOk pg ct) {args : List V} {r : V} (ha : Nat.ble args.length 16 = true) (hr : r.noId = true) (h : exec ⟨pg, ct, ow, 16, anL [], true, none⟩ code ⟨argE args, hOf []⟩ (PostF pg.prog ad [.tmp 4, .tmp 5] r [])) : PCall pg 105 args r := pcall_inF ad hc fol 105 n105 hb rfl e105 rfl (bodyOk_at o105 hb rfl) ha hr h
theorem n107 : Tryz.prog.funcs[107]? = some Tryz.f107 := by kernel_rfl
theorem e107 : entB Tryz.prog 107 = true := by kernel_rfl
theorem o107 : bodyOk (anL []) Tryz.f107 = true := by kernel_rfl
theorem w107 {ct : Ct} (ow : Nat → Bool) (ad : List Adj) {code : Code} (hb : Tryz.f107.body = some code) (hc : CtOk pg ct) {args : List V} {r : V} (ha : Nat.ble args.length 5 = true) (hr : r.noId = true) (h : exec ⟨pg, ct, ow, 5, anL [], true, none⟩ code ⟨argE args, hOf []⟩ (PostF pg.prog ad [.tmp 2] r [])) : PCall pg 107 args r := pcall_inF ad hc fol 107 n107 hb rfl e107 rfl (bodyOk_at o107 hb rfl) ha hr h
theorem n109 : Tryz.prog.funcs[109]? = some Tryz.f109 := by kernel_rfl
theorem e109 : entB Tryz.prog 109 = true := by kernel_rfl
theorem o109 : bodyOk (anL []) Tryz.f109 = true := by kernel_rfl
theorem w109 {ct : Ct} (ow : Nat → Bool) (ad : List Adj) {code : Code} (hb : Tryz.f109.body = some code) (hc : CtOk pg ct) {args : List V} {r : V} (ha : Nat.ble args.length 11 = true) (hr : r.noId = true) (h : exec ⟨pg, ct, ow, 11, anL [], true, none⟩ code ⟨argE args, hOf []⟩ (PostF pg.prog ad [.tmp 4, .tmp 5] r [])) : PCall pg 109 args r := pcall_inF ad hc fol 109 n109 hb rfl e109 rfl (bodyOk_at o109 hb rfl) ha hr h
theorem n111 : Tryz.prog.funcs[111]? = some Tryz.f111 := by kernel_rfl
theorem e111 : entB Tryz.prog 111 = true := by kernel_rfl
theorem o111 : bodyOk (anL []) Tryz.f111 = true := by kernel_rfl
theorem w111 {ct : Ct} (ow : Nat → Bool) (ad : List Adj) {code : Code} (hb : Tryz.f111.body = some code) (hc : CtOk pg ct) {args : List V} {r : V} (ha : Nat.ble args.length 15 = true) (hr : r.noId = true) (h : exec ⟨pg, ct, ow, 15, anL [], true, none⟩ code ⟨argE args, hOf []⟩ (PostF pg.prog ad [.tmp 6] r [])) : PCall pg 111 args r := pcall_inF ad hc fol 111 n111 hb rfl e111 rfl (bodyOk_at o111 hb rfl) ha hr h
theorem n112 : Tryz.prog.funcs[112]? = some Tryz.f112 := by kernel_rfl
theorem e112 : entB Tryz.prog 112 = true := by kernel_rfl
theorem o112 : bodyOk (anL [(4, [0, 0, 3, 7, 15, 15, 15, 111, 239, 15, 15, 1039, 3599, 7695, 16383, 32767, 65535]), (6, [0, 0, 0, 0, 8, 0, 0, 64, 224, 480, 0, 0, 3072, 7168, 16355, 32739, 65535, 131071])]) Tryz.f112 = true := by kernel_rfl
theorem w112 {ct : Ct} (ow : Nat → Bool) (ad : List Adj) {code : Code} (hb : Tryz.f112.body = some code) (hc : CtOk pg ct) {args : List V} {r : V} (ha : Nat.ble args.length 53 = true) (hr : r.noId = true) (h : exec ⟨pg, ct, ow, 53, anL [(4, [0, 0, 3, 7, 15, 15, 15, 111, 239, 15, 15, 1039, 3599, 7695, 16383, 32767, 65535]), (6, [0, 0, 0, 0, 8, 0, 0, 64, 224, 480, 0, 0, 3072, 7168, 16355, 32739, 65535, 131071])], true, none⟩ code ⟨argE args, hOf []⟩ (PostF pg.prog ad [] r [])) : PCall pg 112 args r := pcall_inF ad hc fol 112 n112 hb rfl e112 rfl (bodyOk_at o112 hb rfl) ha hr h
theorem n121 : Tryz.prog.funcs[121]? = some Tryz.f121 := by kernel_rfl
theorem e121 : entB Tryz.prog 121 = true := by kernel_rfl
theorem o121 : bodyOk (anL []) Tryz.f121 = true := by kernel_rfl
theorem w121 {ct : Ct} (ow : Nat → Bool) (ad : List Adj) {code : Code} (hb : Tryz.f121.body = some code) (hc : CtOk pg ct) {args : List V} {r : V} (ha : Nat.ble args.length 25 = true) (hr : r.noId = true) (h : exec ⟨pg, ct, ow, 25, anL [], true, none⟩ code ⟨argE args, hOf []⟩ (PostF pg.prog ad [.tmp 2] r [])) : PCall pg 121 args r := pcall_inF ad hc fol 121 n121 hb rfl e121 rfl (bodyOk_at o121 hb rfl) ha hr h
theorem n124 : Tryz.prog.funcs[124]? = some Tryz.f124 := by kernel_rfl
theorem e124 : entB Tryz.prog 124 = true := by kernel_rfl
theorem o124 : bodyOk (anL []) Tryz.f124 = true := by kernel_rfl
theorem w124 {ct : Ct} (ow : Nat → Bool) (ad : List Adj) {code : Code} (hb : Tryz.f124.body = some code) (hc : CtOk pg ct) {args : List V} {r : V} (ha : Nat.ble args.length 40 = true) (hr : r.noId = true) (h : exec ⟨pg, ct, ow, 40, anL [], true, none⟩ code ⟨argE args, hOf []⟩ (PostF pg.prog ad [.cell 8 47, .tmp 9, .tmp 10] r [])) : PCall pg 124 args r := pcall_inF ad hc fol 124 n124 hb rfl e124 rfl (bodyOk_at o124 hb rfl) ha hr h
theorem n127 : Tryz.prog.funcs[127]? = some Tryz.f127 := by kernel_rfl
theorem e127 : entB Tryz.prog 127 = true := by kernel_rfl
theorem o127 : bodyOk (anL []) Tryz.f127 = true := by kernel_rfl
theorem w127 {ct : Ct} (ow : Nat → Bool) (ad : List Adj) {code : Code} (hb : Tryz.f127.body = some code) (hc : CtOk pg ct) {args : List V} {r : V} (ha : Nat.ble args.length 66 = true) (hr : r.noId = true) (h : exec ⟨pg, ct, ow, 66, anL [], true, none⟩ code ⟨argE args, hOf []⟩ (PostF pg.prog ad [.tmp 2] r [])) : PCall pg 127 args r := pcall_inF ad hc fol 127 n127 hb rfl e127 rfl (bodyOk_at o127 hb rfl) ha hr h
theorem n128 : Tryz.prog.funcs[128]? = some Tryz.f128 := by kernel_rfl
theorem e128 : entB Tryz.prog 128 = true := by kernel_rfl
theorem o128 : bodyOk (anL []) Tryz.f128 = true := by kernel_rfl
theorem fw128 {ct : Ct} (ow : Nat → Bool) (ad : List Adj) {code : Code} (hb : Tryz.f128.body = some code) (hc : CtOk pg ct) {args : List V} {hl hl' : HL} {r : V} (ha : Nat.ble args.length 8 = true) (hlo : ∀ p ∈ hl, 9000 ≤ p.1) (hin : hlIn (idsIn hl) hl') (hr : V.menIn (idsIn hl) r = true) (h : exec ⟨pg, ct, ow, 8, anL [], true, none⟩ code ⟨argE args, hOf hl⟩ (PostF pg.prog ad [.tmp 3] r hl')) : FCall pg 128 args hl r hl' := fcall_inF ad hc fol 128 n128 hb rfl e128 rfl (bodyOk_at o128 hb rfl) ha hlo hin hr h
theorem n129 : Tryz.prog.funcs[129]? = some Tryz.f129 := by kernel_rfl
theorem e129 : entB Tryz.prog 129 = true := by kernel_rfl
theorem o129 : bodyOk (anL []) Tryz.f129 = true := by kernel_rfl
theorem w129 {ct : Ct} (ow : Nat → Bool) (ad : List Adj) {code : Code} (hb : Tryz.f129.body = some code) (hc : CtOk pg ct) {args : List V} {r : V} (ha : Nat.ble args.length 50 = true) (hr : r.noId = true) (h : exec ⟨pg, ct, ow, 50, anL [], true, none⟩ code ⟨argE args, hOf []⟩ (PostF pg.prog ad [.tmp 2] r [])) : PCall pg 129 args r := pcall_inF ad hc fol 129 n129 hb rfl e129 rfl (bodyOk_at o129 hb rfl) ha hr h
theorem n135 : Tryz.prog.funcs[135]? = some Tryz.f135 := by kernel_rfl
theorem e135 : entB Tryz.prog 135 = true := by kernel_rfl
theorem o135 : bodyOk (anL []) Tryz.f135 = true := by kernel_rfl
theorem w135 {ct : Ct} (ow : Nat → Bool) (ad : List Adj) {code : Code} (hb : Tryz.f135.body = some code) (hc : CtOk pg ct) {args : List V} {r : V} (ha : Nat.ble args.length 102 = true) (hr : r.noId = true) (h : exec ⟨pg, ct, ow, 102, anL [], true, none⟩ code ⟨argE args, hOf []⟩ (PostF pg.prog ad [.tmp 10, .tmp 11] r [])) : PCall pg 135 args r := pcall_inF ad hc fol 135 n135 hb rfl e135 rfl (bodyOk_at o135 hb rfl) ha hr h
theorem n136 : Tryz.prog.funcs[136]? = some Tryz.f136 := by kernel_rfl
theorem e136 : entB Tryz.prog 136 = true := by kernel_rfl
theorem o136 : bodyOk (anL []) Tryz.f136 = true := by kernel_rfl
theorem w136 {ct : Ct} (ow : Nat → Bool) (ad : List Adj) {code : Code} (hb : Tryz.f136.body = some code) (hc : CtOk pg ct) {args : List V} {r : V} (ha : Nat.ble args.length 33 = true) (hr : r.noId = true) (h : exec ⟨pg, ct, ow, 33, anL [], true, none⟩ code ⟨argE args, hOf []⟩ (PostF pg.prog ad [.tmp 4] r [])) : PCall pg 136 args r := pcall_inF ad hc fol 136 n136 hb rfl e136 rfl (bodyOk_at o136 hb rfl) ha hr h
theorem n141 : Tryz.prog.funcs[141]? = some Tryz.f141 := by kernel_rfl
theorem e141 : entB Tryz.prog 141 = true := by kernel_rfl
theorem o141 : bodyOk (anL [(2, [0, 1, 3, 7, 15, 15, 15, 79, 207, 463, 1007, 2047, 4095, 8191]), (6, [0, 0, 3, 7, 15, 15, 63, 127, 255, 511, 511, 511, 2559, 6655, 14847, 32255, 65535, 131071, 262143, 524287, 1048575, 2097151, 4194303, 8388607, 8388607, 33554431, 67108863, 134217727, 268435455, 268435455, 1073741823, 2147483647, 4294967295, 8589934591, 17179869183, 34359738367, 68719476735])]) Tryz.f141 = true := by kernel_rfl
theorem fw141 {ct : Ct} (ow : Nat → Bool) (ad : List Adj) {code : Code} (hb : Tryz.f141.body = some code) (hc : CtOk pg ct) {args : List V} {hl hl' : HL} {r : V} (ha : Nat.ble args.length 62 = true) (hlo : ∀ p ∈ hl, 9000 ≤ p.1) (hin : hlIn (idsIn hl) hl') (hr : V.menIn (idsIn hl) r = true) (h : exec ⟨pg, ct, ow, 62, anL [(2, [0, 1, 3, 7, 15, 15, 15, 79, 207, 463, 1007, 2047, 4095, 8191]), (6, [0, 0, 3, 7, 15, 15, 63, 127, 255, 511, 511, 511, 2559, 6655, 14847, 32255, 65535, 131071, 262143, 524287, 1048575, 2097151, 4194303, 8388607, 8388607, 33554431, 67108863, 134217727, 268435455, 268435455, 1073741823, 2147483647, 4294967295, 8589934591, 17179869183, 34359738367, 68719476735])], true, none⟩ code ⟨argE args, hOf hl⟩ (PostF pg.prog ad [.tmp 2] r hl')) : FCall pg 141 args hl r hl' := fcall_inF ad hc fol 141 n141 hb rfl e141 rfl (bodyOk_at o141 hb rfl) ha hlo hin hr h
theorem n142 : Tryz.prog.funcs[142]? = some Tryz.f142 := by kernel_rfl
theorem e142 : entB Tryz.prog 142 = true := by kernel_rfl
theorem o142 : bodyOk (anL []) Tryz.f142 = true := by kernel_rfl
theorem fw142 {ct : Ct} (ow : Nat → Bool) (ad : List Adj) {code : Code} (hb : Tryz.f142.body = some code) (hc : CtOk pg ct) {args : List V} {hl hl' : HL} {r : V} (ha : Nat.ble args.length 19 = true) (hlo : ∀ p ∈ hl, 9000 ≤ p.1) (hin : hlIn (idsIn hl) hl') (hr : V.menIn (idsIn hl) r = true) (h : exec ⟨pg, ct, ow, 19, anL [], true, none⟩ code ⟨argE args, hOf hl⟩ (PostF pg.prog ad [.tmp 4] r hl')) : FCall pg 142 args hl r hl' := fcall_inF ad hc fol 142 n142 hb rfl e142 rfl (bodyOk_at o142 hb rfl) ha hlo hin hr h
theorem n143 : Tryz.prog.funcs[143]? = some Tryz.f143 := by kernel_rfl
theorem e143 : entB Tryz.prog 143 = true := by kernel_rfl
theorem o143 : bodyOk (anL [(1, [0, 1, 3, 0, 15, 31])]) Tryz.f143 = true := by kernel_rfl
theorem fw143 {ct : Ct} (ow : Nat → Bool) (ad : List Adj) {code : Code} (hb : Tryz.f143.body = some code) (hc : CtOk pg ct) {args : List V} {hl hl' : HL} {r : V} (ha : Nat.ble args.length 9 = true) (hlo : ∀ p ∈ hl, 9000 ≤ p.1) (hin : hlIn (idsIn hl) hl') (hr : V.menIn (idsIn hl) r = true) (h : exec ⟨pg, ct, ow, 9, anL [(1, [0, 1, 3, 0, 15, 31])], true, none⟩ code ⟨argE args, hOf hl⟩ (PostF pg.prog ad [.tmp 3] r hl')) : FCall pg 143 args hl r hl' := fcall_inF ad hc fol 143 n143 hb rfl e143 rfl (bodyOk_at o143 hb rfl) ha hlo hin hr h
theorem n144 : Tryz.prog.funcs[144]? = some Tryz.f144 := by kernel_rfl
theorem e144 : entB Tryz.prog 144 = true := by kernel_rfl
theorem o144 : bodyOk (anL []) Tryz.f144 = true := by kernel_rfl
theorem w144 {ct : Ct} (ow : Nat → Bool) (ad : List Adj) {code : Code} (hb : Tryz.f144.body = some code) (hc : CtOk pg ct) {args : List V} {r : V} (ha : Nat.ble args.length 55 = true) (hr : r.noId = true) (h : exec ⟨pg, ct, ow, 55, anL [], true, none⟩ code ⟨argE args, hOf []⟩ (PostF pg.prog ad [.tmp 4, .tmp 5, .tmp 6] r [])) : PCall pg 144 args r := pcall_inF ad hc fol 144 n144 hb rfl e144 rfl (bodyOk_at o144 hb rfl) ha hr h
theorem n146 : Tryz.prog.funcs[146]? = some Tryz.f146 := by kernel_rfl
theorem e146 : entB Tryz.prog 146 = true := by kernel_rfl
theorem o146 : bodyOk (anL []) Tryz.f146 = true := by kernel_rfl
theorem w146 {ct : Ct} (ow : Nat → Bool) (ad : List Adj) {code : Code} (hb : Tryz.f146.body = some code) (hc : CtOk pg ct) {args : List V} {r : V} (ha : Nat.ble args.length 45 = true) (hr : r.noId = true) (h : exec ⟨pg, ct, ow, 45, anL [], true, none⟩ code ⟨argE args, hOf []⟩ (PostF pg.prog ad [.tmp 4, .tmp 5, .tmp 6] r [])) : PCall pg 146 args r := pcall_inF ad hc fol 146 n146 hb rfl e146 rfl (bodyOk_at o146 hb rfl) ha hr h
theorem n147 : Tryz.prog.funcs[147]? = some Tryz.f147 := by kernel_rfl
theorem e147 : entB Tryz.prog 147 = true := by kernel_rfl
theorem o147 : bodyOk (anL []) Tryz.f147 = true := by kernel_rfl
theorem w147 {ct : Ct} (ow : Nat → Bool) (ad : List Adj) {code : Code} (hb : Tryz.f147.body = some code) (hc : CtOk pg ct) {args : List V} {r : V} (ha : Nat.ble args.length 79 = true) (hr : r.noId = true) (h : exec ⟨pg, ct, ow, 79, anL [], true, none⟩ code ⟨argE args, hOf []⟩ (PostF pg.prog ad [.tmp 2, .tmp 3, .tmp 4] r [])) : PCall pg 147 args r := pcall_inF ad hc fol 147 n147 hb rfl e147 rfl (bodyOk_at o147 hb rfl) ha hr h
theorem n150 : Tryz.prog.funcs[150]? = some Tryz.f150 := by kernel_rfl
theorem e150 : entB Tryz.prog 150 = true := by kernel_rfl
theorem o150 : bodyOk (anL []) Tryz.f150 = true := by kernel_rfl
theorem w150 {ct : Ct} (ow : Nat → Bool) (ad : List Adj) {code : Code} (hb : Tryz.f150.body = some code) (hc : CtOk pg ct) {args : List V} {r : V} (ha : Nat.ble args.length 15 = true) (hr : r.noId = true) (h : exec ⟨pg, ct, ow, 15, anL [], true, none⟩ code ⟨argE args, hOf []⟩ (PostF pg.prog ad [.tmp 4, .tmp 5] r [])) : PCall pg 150 args r := pcall_inF ad hc fol 150 n150 hb rfl e150 rfl (bodyOk_at o150 hb rfl) ha hr h
theorem n157 : Tryz.prog.funcs[157]? = some Tryz.f157 := by kernel_rfl
theorem e157 : entB Tryz.prog 157 = true := by kernel_rfl
theorem o157 : bodyOk (anL []) Tryz.f157 = true := by kernel_rfl
theorem w157 {ct : Ct} (ow : Nat → Bool) (ad : List Adj) {code : Code} (hb : Tryz.f157.body = some code) (hc : CtOk pg ct) {args : List V} {r : V} (ha : Nat.ble args.length 14 = true) (hr : r.noId = true) (h : exec ⟨pg, ct, ow, 14, anL [], true, none⟩ code ⟨argE args, hOf []⟩ (PostF pg.prog ad [.tmp 4] r [])) : PCall pg 157 args r := pcall_inF ad hc fol 157 n157 hb rfl e157 rfl (bodyOk_at o157 hb rfl) ha hr h
theorem n158 : Tryz.prog.funcs[158]? = some Tryz.f158 := by kernel_rfl
theorem e158 : entB Tryz.prog 158 = true := by kernel_rfl
theorem o158 : bodyOk (anL [(7, [0, 1, 0, 7, 15, 31, 63, 127, 255, 511, 255, 255, 3327, 7423, 15615, 32767, 65535, 131071]), (14, [0, 1, 3, 7, 15, 31, 63, 127, 127, 511, 1023, 2047, 127, 8191, 127, 127, 127, 98431, 229503, 491647, 1032319, 2097151, 4194303, 8388607])]) Tryz.f158 = true := by kernel_rfl
theorem w158 {ct : Ct} (ow : Nat → Bool) (ad : List Adj) {code : Code} (hb : Tryz.f158.body = some code) (hc : CtOk pg ct) {args : List V} {r : V} (ha : Nat.ble args.length 88 = true) (hr : r.noId = true) (h : exec ⟨pg, ct, ow, 88, anL [(7, [0, 1, 0, 7, 15, 31, 63, 127, 255, 511, 255, 255, 3327, 7423, 15615, 32767, 65535, 131071]), (14, [0, 1, 3, 7, 15, 31, 63, 127, 127, 511, 1023, 2047, 127, 8191, 127, 127, 127, 98431, 229503, 491647, 1032319, 2097151, 4194303, 8388607])], true, none⟩ code ⟨argE args, hOf []⟩ (PostF pg.prog ad [.cell 6 47, .tmp 7] r [])) : PCall pg 158 args r := pcall_inF ad hc fol 158 n158 hb rfl e158 rfl (bodyOk_at o158 hb rfl) ha hr h
theorem n159 : Tryz.prog.funcs[159]? = some Tryz.f159 := by kernel_rfl
theorem e159 : entB Tryz.prog 159 = true := by kernel_rfl
theorem o159 : bodyOk (anL []) Tryz.f159 = true := by kernel_rfl
theorem w159 {ct : Ct} (ow : Nat → Bool) (ad : List Adj) {code : Code} (hb : Tryz.f159.body = some code) (hc : CtOk pg ct) {args : List V} {r : V} (ha : Nat.ble args.length 35 = true) (hr : r.noId = true) (h : exec ⟨pg, ct, ow, 35, anL [], true, none⟩ code ⟨argE args, hOf []⟩ (PostF pg.prog ad [.tmp 4] r [])) : PCall pg 159 args r := pcall_inF ad hc fol 159 n159 hb rfl e159 rfl (bodyOk_at o159 hb rfl) ha hr h
theorem n162 : Tryz.prog.funcs[162]? = some Tryz.f162 := by kernel_rfl
theorem e162 : entB Tryz.prog 162 = true := by kernel_rfl
theorem o162 : bodyOk (anL []) Tryz.f162 = true := by kernel_rfl
theorem w162 {ct : Ct} (ow : Nat → Bool) (ad : List Adj) {code : Code} (hb : Tryz.f162.body = some code) (hc : CtOk pg ct) {args : List V} {r : V} (ha : Nat.ble args.length 8 = true) (hr : r.noId = true) (h : exec ⟨pg, ct, ow, 8, anL [], true, none⟩ code ⟨argE args, hOf []⟩ (PostF pg.prog ad [.tmp 4] r [])) : PCall pg 162 args r := pcall_inF ad hc fol 162 n162 hb rfl e162 rfl (bodyOk_at o162 hb rfl) ha hr h
theorem n170 : Tryz.prog.funcs[170]? = some Tryz.f170 := by kernel_rfl
theorem e170 : entB Tryz.prog 170 = true := by kernel_rfl
theorem o170 : bodyOk (anL []) Tryz.f170 = true := by kernel_rfl
theorem w170 {ct : Ct} (ow : Nat → Bool) (ad : List Adj) {code : Code} (hb : Tryz.f170.body = some code) (hc : CtOk pg ct) {args : List V} {r : V} (ha : Nat.ble args.length 8 = true) (hr : r.noId = true) (h : exec ⟨pg, ct, ow, 8, anL [], true, none⟩ code ⟨argE args, hOf []⟩ (PostF pg.prog ad [.tmp 2] r [])) : PCall pg 170 args r := pcall_inF ad hc fol 170 n170 hb rfl e170 rfl (bodyOk_at o170 hb rfl) ha hr h
theorem n171 : Tryz.prog.funcs[171]? = some Tryz.f171 := by kernel_rfl
theorem e171 : entB Tryz.prog 171 = true := by kernel_rfl
theorem o171 : bodyOk (anL []) Tryz.f171 = true := by kernel_rfl
theorem w171 {ct : Ct} (ow : Nat → Bool) (ad : List Adj) {code : Code} (hb : Tryz.f171.body = some code) (hc : CtOk pg ct) {args : List V} {r : V} (ha : Nat.ble args.length 8 = true) (hr : r.noId = true) (h : exec ⟨pg, ct, ow, 8, anL [], true, none⟩ code ⟨argE args, hOf []⟩ (PostF pg.prog ad [.tmp 2] r [])) : PCall pg 171 args r := pcall_inF ad hc fol 171 n171 hb rfl e171 rfl (bodyOk_at o171 hb rfl) ha hr h
theorem n172 : Tryz.prog.funcs[172]? = some Tryz.f172 := by kernel_rfl
theorem e172 : entB Tryz.prog 172 = true := by kernel_rfl
theorem o172 : bodyOk (anL []) Tryz.f172 = true := by kernel_rfl
theorem w172 {ct : Ct} (ow : Nat → Bool) (ad : List Adj) {code : Code} (hb : Tryz.f172.body = some code) (hc : CtOk pg ct) {args : List V} {r : V} (ha : Nat.ble args.length 26 = true) (hr : r.noId = true) (h : exec ⟨pg, ct, ow, 26, anL [], true, none⟩ code ⟨argE args, hOf []⟩ (PostF pg.prog ad [.tmp 4] r [])) : PCall pg 172 args r := pcall_inF ad hc fol 172 n172 hb rfl e172 rfl (bodyOk_at o172 hb rfl) ha hr h
theorem n180 : Tryz.prog.funcs[180]? = some Tryz.f180 := by kernel_rfl
theorem e180 : entB Tryz.prog 180 = true := by kernel_rfl
theorem o180 : bodyOk (anL []) Tryz.f180 = true := by kernel_rfl
theorem nw180 {ct : Ct} (ow : Nat → Bool) (ad : List Adj) {code : Code} (hb : Tryz.f180.body = some code) (hc : CtOk pg ct) {args : List V} {r : V} {nb : Blk} (ha : Nat.ble args.length 4 = true) (hr : r.newOkP = true) (hnb : noIdB nb) (h : exec ⟨pg, ct, ow, 4, anL [], false, none⟩ code ⟨argE args, hOf []⟩ (PostF pg.prog ad [.tmp 2] r [(8999, nb)])) : NCall pg 180 args r nb := ncall_inF ad hc fol 180 n180 hb rfl e180 rfl (bodyOk_at o180 hb rfl) ha hr hnb h
theorem n181 : Tryz.prog.funcs[181]? = some Tryz.f181 := by kernel_rfl
theorem e181 : entB Tryz.prog 181 = true := by kernel_rfl
theorem o181 : bodyOk (anL []) Tryz.f181 = true := by kernel_rfl
theorem fw181 {ct : Ct} (ow : Nat → Bool) (ad : List Adj) {code : Code} (hb : Tryz.f181.body = some code) (hc : CtOk pg ct) {args : List V} {hl hl' : HL} {r : V} (ha : Nat.ble args.length 7 = true) (hlo : ∀ p ∈ hl, 9000 ≤ p.1) (hin : hlIn (idsIn hl) hl') (hr : V.menIn (idsIn hl) r = true) (h : exec ⟨pg, ct, ow, 7, anL [], true, none⟩ code ⟨argE args, hOf hl⟩ (PostF pg.prog ad [.tmp 3] r hl')) : FCall pg 181 args hl r hl' := fcall_inF ad hc fol 181 n181 hb rfl e181 rfl (bodyOk_at o181 hb rfl) ha hlo hin hr h
theorem n182 : Tryz.prog.funcs[182]? = some Tryz.f182 := by kernel_rfl
theorem e182 : entB Tryz.prog 182 = true := by kernel_rfl
theorem o182 : bodyOk (anL [(1, [0, 1, 3, 7, 0, 16, 48, 112, 255, 511, 1023, 1023, 1023, 2047, 12287, 32767])]) Tryz.f182 = true := by kernel_rfl
theorem fw182 {ct : Ct} (ow : Nat → Bool) (ad : List Adj) {code : Code} (hb : Tryz.f182.body = some code) (hc : CtOk pg ct) {args : List V} {hl hl' : HL} {r : V} (ha : Nat.ble args.length 32 = true) (hlo : ∀ p ∈ hl, 9000 ≤ p.1) (hin : hlIn (idsIn hl) hl') (hr : V.menIn (idsIn hl) r = true) (h : exec ⟨pg, ct, ow, 32, anL [(1, [0, 1, 3, 7, 0, 16, 48, 112, 255, 511, 1023, 1023, 1023, 2047, 12287, 32767])], true, none⟩ code ⟨argE args, hOf hl⟩ (PostF pg.prog ad [.tmp 4] r hl')) : FCall pg 182 args hl r hl' := fcall_inF ad hc fol 182 n182 hb rfl e182 rfl (bodyOk_at o182 hb rfl) ha hlo hin hr h
theorem n183 : Tryz.prog.funcs[183]? = some Tryz.f183 := by kernel_rfl
theorem e183 : entB Tryz.prog 183 = true := by kernel_rfl
theorem o183 : bodyOk (anL [(1, [0, 1, 3, 7, 0, 16, 48, 112, 255, 511, 1023, 1023, 1023, 2047, 12287, 32767])]) Tryz.f183 = true := by kernel_rfl
theorem fw183 {ct : Ct} (ow : Nat → Bool) (ad : List Adj) {code : Code} (hb : Tryz.f183.body = some code) (hc : CtOk pg ct) {args : List V} {hl hl' : HL} {r : V} (ha : Nat.ble args.length 48 = true) (hlo : ∀ p ∈ hl, 9000 ≤ p.1) (hin : hlIn (idsIn hl) hl') (hr : V.menIn (idsIn hl) r = true) (h : exec ⟨pg, ct, ow, 48, anL [(1, [0, 1, 3, 7, 0, 16, 48, 112, 255, 511, 1023, 1023, 1023, 2047, 12287, 32767])], true, none⟩ code ⟨argE args, hOf hl⟩ (PostF pg.prog ad [.tmp 6] r hl')) : FCall pg 183 args hl r hl' := fcall_inF ad hc fol 183 n183 hb rfl e183 rfl (bodyOk_at o183 hb rfl) ha hlo hin hr h
theorem n184 : Tryz.prog.funcs[184]? = some Tryz.f184 := by kernel_rfl
theorem e184 : entB Tryz.prog 184 = true := by kernel_rfl
theorem o184 : bodyOk (anL [(1, [0, 1, 3, 7, 0, 16, 48, 112, 0, 256, 768, 1792, 3840, 0, 8192, 24576, 57344, 0, 131072, 516096, 1040384, 2096896, 4194303, 8388607, 0, 16777216, 67108863, 134217727])]) Tryz.f184 = true := by kernel_rfl
theorem fw184 {ct : Ct} (ow : Nat → Bool) (ad : List Adj) {code : Code} (hb : Tryz.f184.body = some code) (hc : CtOk pg ct) {args : List V} {hl hl' : HL} {r : V} (ha : Nat.ble args.length 32 = true) (hlo : ∀ p ∈ hl, 9000 ≤ p.1) (hin : hlIn (idsIn hl) hl') (hr : V.menIn (idsIn hl) r = true) (h : exec ⟨pg, ct, ow, 32, anL [(1, [0, 1, 3, 7, 0, 16, 48, 112, 0, 256, 768, 1792, 3840, 0, 8192, 24576, 57344, 0, 131072, 516096, 1040384, 2096896, 4194303, 8388607, 0, 16777216, 67108863, 134217727])], true, none⟩ code ⟨argE args, hOf hl⟩ (PostF pg.prog ad [.tmp 4] r hl')) : FCall pg 184 args hl r hl' := fcall_inF ad hc fol 184 n184 hb rfl e184 rfl (bodyOk_at o184 hb rfl) ha hlo hin hr h
theorem n185 : Tryz.prog.funcs[185]? = some Tryz.f185 := by kernel_rfl
theorem e185 : entB Tryz.prog 185 = true := by kernel_rfl
theorem o185 : bodyOk (anL []) Tryz.f185 = true := by kernel_rfl
theorem fw185 {ct : Ct} (ow : Nat → Bool) (ad : List Adj) {code : Code} (hb : Tryz.f185.body = some code) (hc : CtOk pg ct) {args : List V} {hl hl' : HL} {r : V} (ha : Nat.ble args.length 11 = true) (hlo : ∀ p ∈ hl, 9000 ≤ p.1) (hin : hlIn (idsIn hl) hl') (hr : V.menIn (idsIn hl) r = true) (h : exec ⟨pg, ct, ow, 11, anL [], true, none⟩ code ⟨argE args, hOf hl⟩ (PostF pg.prog ad [.tmp 3] r hl')) : FCall pg 185 args hl r hl' := fcall_inF ad hc fol 185 n185 hb rfl e185 rfl (bodyOk_at o185 hb rfl) ha hlo hin hr h
theorem n186 : Tryz.prog.funcs[186]? = some Tryz.f186 := by kernel_rfl
theorem e186 : entB Tryz.prog 186 = true := by kernel_rfl
theorem o186 : bodyOk (anL [(1, [0, 0, 0, 6, 14, 31, 63, 127, 255])]) Tryz.f186 = true := by kernel_rfl
theorem fw186 {ct : Ct} (ow : Nat → Bool) (ad : List Adj) {code : Code} (hb : Tryz.f186.body = some code) (hc : CtOk pg ct) {args : List V} {hl hl' : HL} {r : V} (ha : Nat.ble args.length 18 = true) (hlo : ∀ p ∈ hl, 9000 ≤ p.1) (hin : hlIn (idsIn hl) hl') (hr : V.menIn (idsIn hl) r = true) (h : exec ⟨pg, ct, ow, 18, anL [(1, [0, 0, 0, 6, 14, 31, 63, 127, 255])], true, none⟩ code ⟨argE args, hOf hl⟩ (PostF pg.prog ad [.tmp 3] r hl')) : FCall pg 186 args hl r hl' := fcall_inF ad hc fol 186 n186 hb rfl e186 rfl (bodyOk_at o186 hb rfl) ha hlo hin hr h
theorem n187 : Tryz.prog.funcs[187]? = some Tryz.f187 := by kernel_rfl
theorem e187 : entB Tryz.prog 187 = true := by kernel_rfl
theorem o187 : bodyOk (anL []) Tryz.f187 = true := by kernel_rfl
theorem fw187 {ct : Ct} (ow : Nat → Bool) (ad : List Adj) {code : Code} (hb : Tryz.f187.body = some code) (hc : CtOk pg ct) {args : List V} {hl hl' : HL} {r : V} (ha : Nat.ble args.length 18 = true) (hlo : ∀ p ∈ hl, 9000 ≤ p.1) (hin : hlIn (idsIn hl) hl') (hr : V.menIn (idsIn hl) r = true) (h : exec ⟨pg, ct, ow, 18, anL [], true, none⟩ code ⟨argE args, hOf hl⟩ (PostF pg.prog ad [.tmp 3] r hl')) : FCall pg 187 args hl r hl' := fcall_inF ad hc fol 187 n187 hb rfl e187 rfl (bodyOk_at o187 hb rfl) ha hlo hin hr h
theorem n188 : Tryz.prog.funcs[188]? = some Tryz.f188 := by kernel_rfl
theorem e188 : entB Tryz.prog 188 = true := by kernel_rfl
theorem o188 : bodyOk (anL []) Tryz.f188 = true := by kernel_rfl
theorem w188 {ct : Ct} (ow : Nat → Bool) (ad : List Adj) {code : Code} (hb : Tryz.f188.body = some code) (hc : CtOk pg ct) {args : List V} {r : V} (ha : Nat.ble args.length 14 = true) (hr : r.noId = true) (h : exec ⟨pg, ct, ow, 14, anL [], true, none⟩ code ⟨argE args, hOf []⟩ (PostF pg.prog ad [.tmp 2, .tmp 3] r [])) : PCall pg 188 args r := pcall_inF ad hc fol 188 n188 hb rfl e188 rfl (bodyOk_at o188 hb rfl) ha hr h
theorem n189 : Tryz.prog.funcs[189]? = some Tryz.f189 := by kernel_rfl
theorem e189 : entB Tryz.prog 189 = true := by kernel_rfl
theorem o189 : bodyOk (anL [(2, [0, 1, 3, 7, 0, 16, 48, 112, 255, 511, 1023, 1023, 1023, 2047, 12287, 32767]), (6, [0, 0, 0, 4, 12, 28, 60, 0, 128, 508, 0, 1021, 3069, 7165, 15357, 32767, 65535, 131071])]) Tryz.f189 = true := by kernel_rfl
theorem fw189 {ct : Ct} (ow : Nat → Bool) (ad : List Adj) {code : Code} (hb : Tryz.f189.body = some code) (hc : CtOk pg ct) {args : List V} {hl hl' : HL} {r : V} (ha : Nat.ble args.length 51 = true) (hlo : ∀ p ∈ hl, 9000 ≤ p.1) (hin : hlIn (idsIn hl) hl') (hr : V.menIn (idsIn hl) r = true) (h : exec ⟨pg, ct, ow, 51, anL [(2, [0, 1, 3, 7, 0, 16, 48, 112, 255, 511, 1023, 1023, 1023, 2047, 12287, 32767]), (6, [0, 0, 0, 4, 12, 28, 60, 0, 128, 508, 0, 1021, 3069, 7165, 15357, 32767, 65535, 131071])], true, none⟩ code ⟨argE args, hOf hl⟩ (PostF pg.prog ad [.tmp 2] r hl')) : FCall pg 189 args hl r hl' := fcall_inF ad hc fol 189 n189 hb rfl e189 rfl (bodyOk_at o189 hb rfl) ha hlo hin hr h
theorem n190 : Tryz.prog.funcs[190]? = some Tryz.f190 := by kernel_rfl
theorem e190 : entB Tryz.prog 190 = true := by kernel_rfl
theorem o190 : bodyOk (anL [(3, [0, 0, 2, 6, 14, 14, 31, 95, 223])]) Tryz.f190 = true := by kernel_rfl
theorem fw190 {ct : Ct} (ow : Nat → Bool) (ad : List Adj) {code : Code} (hb : Tryz.f190.body = some code) (hc : CtOk pg ct) {args : List V} {hl hl' : HL} {r : V} (ha : Nat.ble args.length 15 = true) (hlo : ∀ p ∈ hl, 9000 ≤ p.1) (hin : hlIn (idsIn hl) hl') (hr : V.menIn (idsIn hl) r = true) (h : exec ⟨pg, ct, ow, 15, anL [(3, [0, 0, 2, 6, 14, 14, 31, 95, 223])], true, none⟩ code ⟨argE args, hOf hl⟩ (PostF pg.prog ad [.tmp 3] r hl')) : FCall pg 190 args hl r hl' := fcall_inF ad hc fol 190 n190 hb rfl e190 rfl (bodyOk_at o190 hb rfl) ha hlo hin hr h
theorem n191 : Tryz.prog.funcs[191]? = some Tryz.f191 := by kernel_rfl
theorem e191 : entB Tryz.prog 191 = true := by kernel_rfl
theorem o191 : bodyOk (anL []) Tryz.f191 = true := by kernel_rfl
theorem fw191 {ct : Ct} (ow : Nat → Bool) (ad : List Adj) {code : Code} (hb : Tryz.f191.body = some code) (hc : CtOk pg ct) {args : List V} {hl hl' : HL} {r : V} (ha : Nat.ble args.length 10 = true) (hlo : ∀ p ∈ hl, 9000 ≤ p.1) (hin : hlIn (idsIn hl) hl') (hr : V.menIn (idsIn hl) r = true) (h : exec ⟨pg, ct, ow, 10, anL [], true, none⟩ code ⟨argE args, hOf hl⟩ (PostF pg.prog ad [.tmp 3] r hl')) : FCall pg 191 args hl r hl' := fcall_inF ad hc fol 191 n191 hb rfl e191 rfl (bodyOk_at o191 hb rfl) ha hlo hin hr h
theorem n192 : Tryz.prog.funcs[192]? = some Tryz.f192 := by kernel_rfl
theorem e192 : entB Tryz.prog 192 = true := by kernel_rfl
theorem o192 : bodyOk (anL []) Tryz.f192 = true := by kernel_rfl
theorem w192 {ct : Ct} (ow : Nat → Bool) (ad : List Adj) {code : Code} (hb : Tryz.f192.body = some code) (hc : CtOk pg ct) {args : List V} {r : V} (ha : Nat.ble args.length 11 = true) (hr : r.noId = true) (h : exec ⟨pg, ct, ow, 11, anL [], true, none⟩ code ⟨argE args, hOf []⟩ (PostF pg.prog ad [.tmp 2] r [])) : PCall pg 192 args r := pcall_inF ad hc fol 192 n192 hb rfl e192 rfl (bodyOk_at o192 hb rfl) ha hr h
theorem n194 : Tryz.prog.funcs[194]? = some Tryz.f194 := by kernel_rfl
theorem e194 : entB Tryz.prog 194 = true := by kernel_rfl
theorem o194 : bodyOk (anL []) Tryz.f194 = true := by kernel_rfl
theorem w194 {ct : Ct} (ow : Nat → Bool) (ad : List Adj) {code : Code} (hb : Tryz.f194.body = some code) (hc : CtOk pg ct) {args : List V} {r : V} (ha : Nat.ble args.length 27 = true) (hr : r.noId = true) (h : exec ⟨pg, ct, ow, 27, anL [], true, none⟩ code ⟨argE args, hOf []⟩ (PostF pg.prog ad [.cell 2 63, .tmp 3] r [])) : PCall pg 194 args r := pcall_inF ad hc fol 194 n194 hb rfl e194 rfl (bodyOk_at o194 hb rfl) ha hr h
theorem n195 : Tryz.prog.funcs[195]? = some Tryz.f195 := by kernel_rfl
theorem e195 : entB Tryz.prog 195 = true := by kernel_rfl
theorem o195 : bodyOk (anL []) Tryz.f195 = true := by kernel_rfl
theorem w195 {ct : Ct} (ow : Nat → Bool) (ad : List Adj) {code : Code} (hb : Tryz.f195.body = some code) (hc : CtOk pg ct) {args : List V} {r : V} (ha : Nat.ble args.length 35 = true) (hr : r.noId = true) (h : exec ⟨pg, ct, ow, 35, anL [], true, none⟩ code ⟨argE args, hOf []⟩ (PostF pg.prog ad [.tmp 2] r [])) : PCall pg 195 args r := pcall_inF ad hc fol 195 n195 hb rfl e195 rfl (bodyOk_at o195 hb rfl) ha hr h
theorem n196 : Tryz.prog.funcs[196]? = some Tryz.f196 := by kernel_rfl
theorem e196 : entB Tryz.prog 196 = true := by kernel_rfl
theorem o196 : bodyOk (anL [(6, [0, 0, 3, 7, 0, 0, 48, 127])]) Tryz.f196 = true := by kernel_rfl
theorem w196 {ct : Ct} (ow : Nat → Bool) (ad : List Adj) {code : Code} (hb : Tryz.f196.body = some code) (hc : CtOk pg ct) {args : List V} {r : V} (ha : Nat.ble args.length 24 = true) (hr : r.noId = true) (h : exec ⟨pg, ct, ow, 24, anL [(6, [0, 0, 3, 7, 0, 0, 48, 127])], true, none⟩ code ⟨argE args, hOf []⟩ (PostF pg.prog ad [.tmp 4] r [])) : PCall pg 196 args r := pcall_inF ad hc fol 196 n196 hb rfl e196 rfl (bodyOk_at o196 hb rfl) ha hr h
theorem n201 : Tryz.prog.funcs[201]? = some Tryz.f201 := by kernel_rfl
theorem e201 : entB Tryz.prog 201 = true := by kernel_rfl
theorem o201 : bodyOk (anL []) Tryz.f201 = true := by kernel_rfl
theorem w201 {ct : Ct} (ow : Nat → Bool) (ad : List Adj) {code : Code} (hb : Tryz.f201.body = some code) (hc : CtOk pg ct) {args : List V} {r : V} (ha : Nat.ble args.length 49 = true) (hr : r.noId = true) (h : exec ⟨pg, ct, ow, 49, anL [], true, none⟩ code ⟨argE args, hOf []⟩ (PostF pg.prog ad [.tmp 6, .tmp 7] r [])) : PCall pg 201 args r := pcall_inF ad hc fol 201 n201 hb rfl e201 rfl (bodyOk_at o201 hb rfl) ha hr h
theorem n202 : Tryz.prog.funcs[202]? = some Tryz.f202 := by kernel_rfl
theorem e202 : entB Tryz.prog 202 = true := by kernel_rfl
theorem o202 : bodyOk (anL []) Tryz.f202 = true := by kernel_rfl
theorem w202 {ct : Ct} (ow : Nat → Bool) (ad : List Adj) {code : Code} (hb : Tryz.f202.body = some code) (hc : CtOk pg ct) {args : List V} {r : V} (ha : Nat.ble args.length 9 = true) (hr : r.noId = true) (h : exec ⟨pg, ct, ow, 9, anL [], true, none⟩ code ⟨argE args, hOf []⟩ (PostF pg.prog ad [.tmp 4] r [])) : PCall pg 202 args r := pcall_inF ad hc fol 202 n202 hb rfl e202 rfl (bodyOk_at o202 hb rfl) ha hr h
theorem n205 : Tryz.prog.funcs[205]? = some Tryz.f205 := by kernel_rfl
theorem e205 : entB Tryz.prog 205 = true := by kernel_rfl
theorem o205 : bodyOk (anL []) Tryz.f205 = true := by kernel_rfl
theorem w205 {ct : Ct} (ow : Nat → Bool) (ad : List Adj) {code : Code} (hb : Tryz.f205.body = some code) (hc : CtOk pg ct) {args : List V} {r : V} (ha : Nat.ble args.length 8 = true) (hr : r.noId = true) (h : exec ⟨pg, ct, ow, 8, anL [], true, none⟩ code ⟨argE args, hOf []⟩ (PostF pg.prog ad [.tmp 4] r [])) : PCall pg 205 args r := pcall_inF ad hc fol 205 n205 hb rfl e205 rfl (bodyOk_at o205 hb rfl) ha hr h
theorem n218 : Tryz.prog.funcs[218]? = some Tryz.f218 := by kernel_rfl
theorem e218 : entB Tryz.prog 218 = true := by kernel_rfl
theorem o218 : bodyOk (anL [(3, [0, 0, 2, 7, 15, 31]), (5, [0, 1, 0, 4, 0, 16, 0, 64, 0, 256, 1023, 2047, 0]), (15, [0, 1, 3, 0, 15, 0, 32, 96, 255, 511, 1023, 0, 2048, 6144, 14336, 32767, 0, 65536, 196608, 458752, 1048575, 0, 2097152, 6291456, 16777215, 33554431])]) Tryz.f218 = true := by kernel_rfl
theorem w218 {ct : Ct} (ow : Nat → Bool) (ad : List Adj) {code : Code} (hb : Tryz.f218.body = some code) (hc : CtOk pg ct) {args : List V} {r : V} (ha : Nat.ble args.length 91 = true) (hr : r.noId = true) (h : exec ⟨pg, ct, ow, 91, anL [(3, [0, 0, 2, 7, 15, 31]), (5, [0, 1, 0, 4, 0, 16, 0, 64, 0, 256, 1023, 2047, 0]), (15, [0, 1, 3, 0, 15, 0, 32, 96, 255, 511, 1023, 0, 2048, 6144, 14336, 32767, 0, 65536, 196608, 458752, 1048575, 0, 2097152, 6291456, 16777215, 33554431])], true, none⟩ code ⟨argE args, hOf []⟩ (PostF pg.prog ad [.tmp 2, .tmp 3] r [])) : PCall pg 218 args r := pcall_inF ad hc fol 218 n218 hb rfl e218 rfl (bodyOk_at o218 hb rfl) ha hr h
end Go.Abs
