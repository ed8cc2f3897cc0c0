import Derived.Test.YtppjlnagihefoaaDoorAbsA33
namespace Go.Abs
open Go

/- contracts -/
abbrev Ck := List V → Option (Prop × V)
def Con (G : PG) (g : FuncId) (k : Ck) : Prop := ∀ args q r, k args = some (q, r) → q → PCall G g args r
def ctN : Ct := fun _ _ => none
def ctA (g : FuncId) (k : Ck) (ct : Ct) : Ct := fun f a => if g = f then k a else ct f a
@[push_cast] theorem ctN_at (f : FuncId) (a : List V) : ctN f a = none := rfl
@[push_cast] theorem ctA_at (g : FuncId) (k : Ck) (ct : Ct) (f : FuncId) (a : List V) : ctA g k ct f a = if g = f then k a else ct f a := rfl
theorem ctN_ok (G : PG) : CtOk G ctN := fun _ _ _ _ h => by cases h
theorem ctA_ok {G : PG} {g : FuncId} {k : Ck} {ct : Ct} (h : Con G g k) (h' : CtOk G ct) : CtOk G (ctA g k ct) := by
  intro f a q r he hq
  unfold ctA at he
  by_cases e : g = f
  · subst e; rw [if_pos rfl] at he; exact h _ _ _ he hq
  · rw [if_neg e] at he; exact h' _ _ _ _ he hq
end Go.Abs
