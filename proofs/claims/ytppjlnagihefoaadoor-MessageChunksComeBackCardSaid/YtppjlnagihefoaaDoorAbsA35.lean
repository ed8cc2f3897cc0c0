import Derived.Test.YtppjlnagihefoaaDoorAbsA34
import Derived.Lib.Bytealg
import Derived.Laws.Externs
namespace Go.Abs
open Go

/-- a function without a body that is answered at once, and touches nothing -/
theorem pcall_ext {G : PG} {f : FuncId} {fn : Func} {e : Array Value → Sem Value} (hf : G.prog.funcs[f]? = some fn) (hname : (fn.name == "runtime.NumGoroutine") = false) (hb : fn.body.isNone = true) (hn : Extern.findNext fn = none) (he : Extern.find fn = some e)
    {args : List V} {r : V} (h : ∀ (S : Sv) (vals : List Value), Sim G S → vals.length = args.length → (∀ i, i < args.length → S.rep (args.getD i .any) (vals.getD i undef)) → ∃ v, (e vals.toArray).run G.prog S.w = .ok v S.w ∧ S.rep r v) : PCall G f args r := by
  intro S vals hs hh hl hr
  obtain ⟨v, h1, h2⟩ := h S vals hs hl hr
  refine .inr ⟨v, S.w, ?_, v, S.γ, S.imm, rfl, by rw [← hh]; exact hs, by rw [← hh]; exact Ext.refl _ _, fun _ _ => rfl, h2⟩
  rw [run_callFunc_extern hf hname hb hn he, h1]
  rfl
theorem two_vals {vals : List Value} (h : vals.length = 2) : ∃ x y, vals = [x, y] := by
  match vals, h with
  | [x, y], _ => exact ⟨x, y, rfl⟩
def ckIndexByte : Ck
  | [.str s, .int .u8 c] => some (True, .int .i64 (Lib.indexByte s c.toNat.toUInt8))
  | _ => none
@[push_cast] theorem ckIndexByte_at (s : List UInt8) (c : Int) : ckIndexByte [.str s, .int .u8 c] = some (True, .int .i64 (Lib.indexByte s c.toNat.toUInt8)) := rfl
theorem ckIndexByte_inv {args : List V} {q : Prop} {r : V} (h : ckIndexByte args = some (q, r)) : ∃ s c, args = [.str s, .int .u8 c] ∧ q = True ∧ r = .int .i64 (Lib.indexByte s c.toNat.toUInt8) := by
  unfold ckIndexByte at h
  split at h
  · cases h; exact ⟨_, _, rfl, rfl, rfl⟩
  · cases h
theorem con_IndexByteString {G : PG} {f : FuncId} {fn : Func} (hf : G.prog.funcs[f]? = some fn) (hname : (fn.name == "runtime.NumGoroutine") = false) (hb : fn.body.isNone = true) (hn : Extern.findNext fn = none) (he : Extern.find fn = some Extern.BytealgIndexByte.indexByte) :
    Con G f ckIndexByte := by
  intro args q r h _
  obtain ⟨s, c, rfl, _, rfl⟩ := ckIndexByte_inv h
  refine pcall_ext hf hname hb hn he fun S vals hs hl hr => ?_
  obtain ⟨x, y, rfl⟩ := two_vals hl
  have h0 := inv_str (hr 0 (by simp))
  have h1 := inv_int (hr 1 (by simp))
  simp only [List.getD_cons_zero, List.getD_cons_succ] at h0 h1
  subst h0; subst h1
  exact ⟨_, Lib.run_indexByteString _ _ _, .pure (.int _ _)⟩
/-- a function, by its body, with what its calls are known to do -/
theorem pcall_in {G : PG} {ct : Ct} {ow : Nat → Bool} {n : Nat} {an : Nat → List Nat} (hc : CtOk G ct) (hfol : G.prog.follows .mixedOrders = true) (f : FuncId) {fn : Func} {code : Code} {rs : List ResultVar} (hf : G.prog.funcs[f]? = some fn) (hb : fn.body = some code) (hrs : fn.results.toList = rs)
    (hent : entB G.prog f = true) (hn : fn.ntmps = n) (hok : (codeOk an code && Nat.ble n 8999) = true) {args : List V} (ha : Nat.ble args.length n = true) {r : V} (hr : r.noId = true) (h : exec ⟨G, ct, ow, n, an⟩ code ⟨argE args, hOf []⟩ (PostL G.prog rs r)) : PCall G f args r :=
  pcall_body (c := ⟨G, ct, ow, n, an⟩) ⟨hc, hfol⟩ f hf hb hrs hent hn hok ha hr h
/-- tables of ancestors, by the regions' numbers -/
def anL : List (Nat × List Nat) → Nat → List Nat
  | [], _ => []
  | (k, l) :: r, i => if k = i then l else anL r i
attribute [push_cast] anL
def bodyOk (an : Nat → List Nat) (fn : Func) : Bool := (match fn.body with
  | some c => codeOk an c
  | none => false) && Nat.ble fn.ntmps 8999
theorem bodyOk_at {an : Nat → List Nat} {fn : Func} {code : Code} {n : Nat} (h : bodyOk an fn = true) (hb : fn.body = some code) (hn : fn.ntmps = n) : (codeOk an code && Nat.ble n 8999) = true := by
  unfold bodyOk at h
  rw [hb, hn] at h
  exact h
/-- the same of arguments that say more -/
theorem pcall_args {G : PG} {f : FuncId} {args args' : List V} {r : V} (hl : vleL args args') (h : PCall G f args' r) : PCall G f args r := by
  intro S vals hs hh hlen hr
  exact h S vals hs hh (hlen.trans (vleL_len hl)) fun i hi => vleL_at hl i _ _ _ _ (hr i (by rw [vleL_len hl]; exact hi))
end Go.Abs
