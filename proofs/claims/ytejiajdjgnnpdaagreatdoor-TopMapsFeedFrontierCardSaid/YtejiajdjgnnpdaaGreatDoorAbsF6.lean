/- what functions of this program compute: contracts, each a function's own -/
import Derived.Test.YtejiajdjgnnpdaaGreatDoorAbsK3
import Derived.Test.YtejiajdjgnnpdaaGreatDoorAbsFacts
import Derived.Test.YtejiajdjgnnpdaaGreatDoorAbsF5
import Derived.Test.YtejiajdjgnnpdaaGreatDoorAbsShelf
import Derived.Lib.SplitLaws
import Derived.Lib.SlTrimSet
import Derived.Lib.Atoi
import Derived.Lib.Itoa
import Derived.Lib.ItoaNum
import Derived.Lib.AtoiErrMem
import Derived.Lib.Join
import Derived.Lib.Repeat
import Derived.Lib.IndexMore
import Derived.Lib.AsciiSet
import Derived.Lib.IndexAny
import Derived.Sort.Walk0
import Derived.Lib.ItoaLen
import Derived.Shelf.Spec.SlicesInsert
import Derived.Shelf.Spec.SlicesInsertGrow
import Derived.Lib.Overlaps
import Derived.Lib.AppendZerosOnto
import Derived.Laws.NewBlocks
import Derived.WalkKit
import Derived.Lib.Walk
namespace Go.Abs
open Go Go.Proofs
set_option maxHeartbeats 4000000
set_option maxRecDepth 100000
set_option linter.unusedVariables false
set_option linter.unusedSimpArgs false
def agS : List UInt8 := [97, 98, 99, 100, 101, 102, 103, 104, 105, 106, 107, 108, 109, 110, 111, 112, 113, 114, 115, 116, 117, 118, 119, 120, 121, 122, 48, 49, 50, 51, 52, 53, 54, 55, 56, 57, 45, 95]
theorem agS_has (c : UInt8) : agS.contains c = agB c := by
  have key : ∀ n, n < 256 → agS.contains (UInt8.ofNat n) = agB (UInt8.ofNat n) := by decide +kernel
  have := key c.toNat (UInt8.toNat_lt c)
  simpa using this
theorem trim_ag (s : List UInt8) : Lib.trimS s agS = [] ↔ s.all agB = true := by
  rw [trimS_nil]
  have : (fun x => agS.contains x) = agB := funext agS_has
  rw [this]
def ckIsAgent : Ck
  | [.str s] => some (s.length ≤ 140737488355328, .bool (agentL s))
  | _ => none
theorem conIsAgent : Con pg 63 ckIsAgent := by
  have hct := (ctA_ok conTrim (ctN_ok _))
  intro args q r h hq
  unfold ckIsAgent at h
  split at h
  · cases h
    rename_i s
    refine w63 (fun _ => false) [] rfl hct rfl rfl ?_
    push_cast (config := { maxSteps := 10000000 })
    have e := trim_ag s
    unfold agS at e
    refine ⟨fun h => ⟨h, fun h' => ⟨h, h'⟩⟩, fun h => ⟨h, by omega⟩, fun h => ⟨h, fun h' => ⟨h, h'⟩⟩, ?_⟩
    unfold agentL
    rw [Bool.eq_iff_iff]
    simp only [Bool.or_eq_true, Bool.and_eq_true, decide_eq_true_eq, beq_iff_eq, e]
    refine or_congr_right (and_congr_left fun _ => and_congr ?_ ?_) <;> omega
  · cases h
attribute [push_cast] ckIsAgent
def ckCheckGrp : Ck
  | [x] => some (isC cGrp x ∧ grpOk (cGrp.dec x), .int .i64 (checkGrpL (cGrp.dec x)))
  | _ => none
theorem conCheckGrp : Con pg 111 ckCheckGrp := by
  have hct := (ctA_ok conIsAgent (ctA_ok conPat (ctN_ok _)))
  intro args q r h hq
  unfold ckCheckGrp at h
  split at h
  · cases h
    rename_i x
    refine pcall_args (args' := [cGrp.enc (cGrp.dec x)]) ⟨hq.1, trivial⟩ ?_
    obtain ⟨-, ok⟩ := hq
    generalize cGrp.dec x = g at ok ⊢
    obtain ⟨o1, o2, o3, o4, o5, o6⟩ := ok
    refine w111 (fun _ => false) [] rfl hct rfl rfl ?_
    push_cast (config := { maxSteps := 10000000 })
    refine ⟨fun h => by unfold checkGrpL; rw [if_pos (by omega)], fun h1 => ⟨fun h => by unfold checkGrpL; rw [if_neg (by omega), if_pos (by omega)], fun h2 => ?_⟩⟩
    have hag : ∀ j, j < g.ag.length → (g.ag.getD j []).length ≤ 140737488355328 := fun j hj => o2 _ (by rw [List.getD_eq_getElem?_getD, List.getElem?_eq_getElem hj]; exact List.getElem_mem hj)
    have eG : g.ag.all agentL = false → checkGrpL g = 5 := fun h => by unfold checkGrpL; rw [if_neg (by omega), if_neg (by omega), if_pos h]
    refine LoopW.adj ⟨hct, fol⟩ (by kernel_rfl) [] (fun i : Nat => [(1, .ptr 1 0), (16, .sl g.ag.length (lsF cStr g.ag)), (17, .int .i64 g.ag.length), (18, .int .i64 i)]) (fun _ => [(1, .cells [.sl g.ag.length (lsF cStr g.ag), .sl g.ru.length (lsF cRul g.ru), .int .i64 g.de])]) (fun i => i ≤ g.ag.length ∧ ∀ j, j < i → agentL (g.ag.getD j []) = true) (fun i => g.ag.length - i) 0 ?_ fun i hi => ?_
    · push_cast (config := { maxSteps := 10000000 })
      exact Nat.zero_le _
    · push_cast (config := { maxSteps := 10000000 })
      obtain ⟨i1, i2⟩ := hi
      refine ⟨fun hl => ⟨hl, hag i hl, fun ha => ?_, fun ha => ⟨⟨by omega, by omega⟩, i + 1, ⟨by omega, fun j hj => ?_⟩, by omega, by omega⟩⟩, fun hl => ?_⟩
      · exact (eG (all_no' (d := []) hl ha)).symm
      · by_cases e : j = i
        · subst e; exact ha
        · exact i2 j (by omega)
      have hA : g.ag.all agentL = true := all_at' (d := []) fun j hj => i2 j (by omega)
      have eH : checkGrpL g = if 200 < g.ru.length then 16 else if (g.ru.all fun r => patOk r.pa) = false then 3 else if g.de < -1 ∨ 99999 < g.de then 1 else 0 := by
        unfold checkGrpL; rw [if_neg (by omega), if_neg (by omega), if_neg (by rw [hA]; simp)]
      rw [eH]
      refine ⟨fun h => by rw [if_pos (by omega)], fun h3 => ?_⟩
      rw [if_neg (by omega)]
      refine LoopW.adj ⟨hct, fol⟩ (by kernel_rfl) [] (fun i : Nat => [(1, .ptr 1 0), (31, .sl g.ru.length (lsF cRul g.ru)), (32, .int .i64 g.ru.length), (33, .int .i64 i)]) (fun _ => [(1, .cells [.sl g.ag.length (lsF cStr g.ag), .sl g.ru.length (lsF cRul g.ru), .int .i64 g.de])]) (fun i => i ≤ g.ru.length ∧ ∀ j, j < i → patOk (g.ru.getD j noRul).pa = true) (fun i => g.ru.length - i) 0 ?_ fun i hi => ?_
      · push_cast (config := { maxSteps := 10000000 })
        exact Nat.zero_le _
      · push_cast (config := { maxSteps := 10000000 })
        obtain ⟨j1, j2⟩ := hi
        refine ⟨fun hl => ⟨hl, fun ha => ?_, fun ha => ⟨⟨by omega, by omega⟩, i + 1, ⟨by omega, fun j hj => ?_⟩, by omega, by omega⟩⟩, fun hl => ?_⟩
        · rw [if_pos (all_no' (d := noRul) hl ha)]
        · by_cases e : j = i
          · subst e; exact ha
          · exact j2 j (by omega)
        · rw [if_neg (by rw [all_at' (d := noRul) fun j hj => j2 j (by omega)]; simp)]
          exact ⟨fun x => by rw [if_pos x], fun x => by rw [if_neg (by omega)]⟩
  · cases h
attribute [push_cast] ckCheckGrp
def ckIsAdr4 : Ck
  | [.str s] => some (True, .bool (adrB s))
  | _ => none
attribute [push_cast] ckIsAdr4
def ckCheckRob : Ck
  | [x] => some (isC cRob x ∧ robOk (cRob.dec x), .int .i64 (checkRobL (cRob.dec x)))
  | _ => none
theorem conCheckRob : Con pg 62 ckCheckRob := by
  have hct := (ctA_ok conCheckGrp (ctA_ok conReadA (ctN_ok _)))
  intro args q r h hq
  unfold ckCheckRob at h
  split at h
  · cases h
    rename_i x
    refine pcall_args (args' := [cRob.enc (cRob.dec x)]) ⟨hq.1, trivial⟩ ?_
    obtain ⟨-, ok⟩ := hq
    generalize cRob.dec x = r at ok ⊢
    obtain ⟨o1, o2, o3, o4⟩ := ok
    refine w62 (fun _ => false) [] rfl hct rfl rfl ?_
    push_cast (config := { maxSteps := 10000000 })
    refine ⟨fun h => by unfold checkRobL; rw [if_pos (by omega)], fun h1 => ?_⟩
    have hgr : ∀ j, j < r.gr.length → grpOk (r.gr.getD j noGrp) := fun j hj => o2 _ (by rw [List.getD_eq_getElem?_getD, List.getElem?_eq_getElem hj]; exact List.getElem_mem hj)
    have hma : ∀ j, j < r.ma.length → (r.ma.getD j []).length ≤ 140737488355328 := fun j hj => o4 _ (by rw [List.getD_eq_getElem?_getD, List.getElem?_eq_getElem hj]; exact List.getElem_mem hj)
    refine LoopW.adj ⟨hct, fol⟩ (by kernel_rfl) [] (fun i : Nat => [(1, .ptr 1 0), (16, .sl r.gr.length (lsF cGrp r.gr)), (17, .int .i64 r.gr.length), (18, .int .i64 i)]) (fun _ => [(1, .cells [.sl r.gr.length (lsF cGrp r.gr), .sl r.ma.length (lsF cStr r.ma)])]) (fun i => i ≤ r.gr.length ∧ grpsE (r.gr.drop i) = grpsE r.gr) (fun i => r.gr.length - i) 0 ?_ fun i hi => ?_
    · push_cast (config := { maxSteps := 10000000 })
      exact Nat.zero_le _
    · push_cast (config := { maxSteps := 10000000 })
      obtain ⟨i1, i2⟩ := hi
      have eR : checkRobL r = if grpsE r.gr = 0 then (if 100 < r.ma.length then 16 else if r.ma.all adrB = true then 0 else 3) else grpsE r.gr := by unfold checkRobL; rw [if_neg (by omega)]
      refine ⟨fun hl => ?_, fun hl => ?_⟩
      · rw [dropG (d := noGrp) hl, grpsE] at i2
        refine ⟨hl, hgr i hl, fun hc => ?_, fun hc => ⟨⟨by omega, by omega⟩, i + 1, ⟨by omega, ?_⟩, by omega, by omega⟩⟩
        · rw [if_neg hc] at i2
          rw [eR, ← i2, if_neg hc]
        · rw [if_pos hc] at i2; exact i2
      rw [List.drop_eq_nil_of_le (by omega), grpsE] at i2
      rw [← i2, if_pos rfl] at eR
      rw [eR]
      refine ⟨fun h => by rw [if_pos (by omega)], fun h2 => ?_⟩
      rw [if_neg (by omega)]
      refine LoopW.adj ⟨hct, fol⟩ (by kernel_rfl) [] (fun i : Nat => [(33, .sl r.ma.length (lsF cStr r.ma)), (34, .int .i64 r.ma.length), (35, .int .i64 i)]) (fun _ => []) (fun i => i ≤ r.ma.length ∧ ∀ j, j < i → adrB (r.ma.getD j []) = true) (fun i => r.ma.length - i) 0 ?_ fun i hi => ?_
      · push_cast (config := { maxSteps := 10000000 })
        exact Nat.zero_le _
      · push_cast (config := { maxSteps := 10000000 })
        obtain ⟨j1, j2⟩ := hi
        refine ⟨fun hl => ⟨hl, fun hc => ?_, fun hc => ⟨⟨by omega, by omega⟩, i + 1, ⟨by omega, fun j hj => ?_⟩, by omega, by omega⟩⟩, fun hl => by rw [if_pos (all_at' (d := []) fun j hj => j2 j (by omega))]⟩
        · rw [if_neg (by rw [all_no' (d := []) hl (show adrB (r.ma.getD i []) = false from decide_eq_false hc)]; simp)]
        · by_cases e : j = i
          · subst e; exact decide_eq_true hc
          · exact j2 j (by omega)
  · cases h
attribute [push_cast] ckCheckRob
def ckCE : Ck
  | [.agg [.bool b, .sl n f], .agg [.str s, .int .i64 d, .int .i64 w]] => some (True, .int .i64 (entBad b ⟨s, d, w⟩))
  | _ => none
attribute [push_cast] ckCE
/- slices of strings, as the library's functions are handed them -/
theorem inv_strs {S : Sv} {L : List (List UInt8)} {v : Value} (h : S.rep (.sl L.length (lsF cStr L)) v) :
    ∃ a c, v = .slice a L.length c ∧ L.length ≤ c ∧ (L.length = 0 ∨ ∃ b o, a = some ⟨b, o, none⟩ ∧ ∀ i, i < L.length → S.w.cell? ⟨b, o + i, none⟩ = some (.string ⟨(L.getD i []).toArray⟩)) := by
  have h' := inv_sl h
  generalize hn : L.length = n at h'
  cases h' with
  | sl0 f a c => exact ⟨a, c, rfl, Nat.zero_le _, .inl rfl⟩
  | sl n f B off c sz u hb hc hz hf hcell hone hrep =>
    refine ⟨_, c, rfl, hc, ?_⟩
    by_cases h0 : n = 0
    · exact .inl h0
    refine .inr ⟨B, off, rfl, fun i hi => ?_⟩
    have hsz : sz = 1 := by have := hf i hi; exact this.symm
    subst hsz
    have h1 := hcell i 0 hi (by omega)
    have h2 := hrep i 0 hi (by omega)
    have h3 : u i 0 = .string ⟨(L.getD i []).toArray⟩ := by
      have h4 : S.rep (.str (L.getD i [])) (u i 0) := .pure h2
      exact inv_str h4
    rw [h3, Nat.mul_one, Nat.add_zero] at h1
    exact h1
def ckJoin : Ck
  | [.sl n f, .str c] => some (isLs cStr n f ∧ n ≤ 140737488355328 ∧ (Lib.join (lsOf cStr n f) c).length ≤ 140737488355328, .str (Lib.join (lsOf cStr n f) c))
  | _ => none
theorem conJoin : Con pg 107 ckJoin := by
  intro args q r h hq
  unfold ckJoin at h
  split at h
  · cases h
    rename_i n f c
    obtain ⟨h1, h2, h3⟩ := hq
    refine pcall_args (args' := [.sl (lsOf cStr n f).length (lsF cStr (lsOf cStr n f)), .str c]) ⟨isLs.vle h1, VLe.refl _, trivial⟩ ?_
    have hL : (lsOf cStr n f).length ≤ 140737488355328 := by rw [lsOf_len]; exact h2
    generalize lsOf cStr n f = L at h3 hL ⊢
    refine pcall_rep (by kernel_rfl) fun S vals hok hl hr => ?_
    obtain ⟨v0, v1, rfl⟩ := vals2 hl
    have r0 : S.rep (.sl L.length (lsF cStr L)) v0 := hr 0 (by simp)
    have r1 : S.rep (.str c) v1 := hr 1 (by simp)
    obtain rfl := inv_str r1
    obtain ⟨a, cap, rfl, hc, hcase⟩ := inv_strs r0
    have hmap : (L.map fun x => (⟨x.toArray⟩ : ByteArray)).map (·.data.toList) = L := by
      rw [List.map_map]
      conv => rhs; rw [← List.map_id L]
      congr 1
    rcases hcase with h0 | ⟨b, o, rfl, hcell⟩
    · have hL0 : L = [] := List.length_eq_zero_iff.1 h0
      subst hL0
      exact (Tryz.strings_Join_none a cap ⟨c.toArray⟩ S.w).mono fun e w' h => ⟨_, h.1, by rw [h.2]; exact ⟨rfl, rfl, rfl, Nat.le_refl _, fun _ _ => rfl⟩, fun γ imm _ _ => .pure (.str [])⟩
    · by_cases h0 : L.length = 0
      · have hL0 : L = [] := List.length_eq_zero_iff.1 h0
        subst hL0
        exact (Tryz.strings_Join_none _ cap ⟨c.toArray⟩ S.w).mono fun e w' h => ⟨_, h.1, by rw [h.2]; exact ⟨rfl, rfl, rfl, Nat.le_refl _, fun _ _ => rfl⟩, fun γ imm _ _ => .pure (.str [])⟩
      have hb : b < S.w.heap.size := by
        have := hcell 0 (by omega)
        refine Classical.byContradiction fun hn => ?_
        have h5 : S.w.heap[b]? = none := Array.getElem?_eq_none (by omega)
        simp [World.cell?, h5] at this
      have := Tryz.strings_Join b o cap (L.map fun x => (⟨x.toArray⟩ : ByteArray)) ⟨c.toArray⟩ S.w (fun j x hx => by
        rw [List.getElem?_map] at hx
        obtain ⟨y, hy, rfl⟩ := Option.map_eq_some_iff.1 hx
        have hj := (List.getElem?_eq_some_iff.1 hy).1
        have := hcell j hj
        rw [List.getD_eq_getElem?_getD, hy] at this
        exact this) hb (by rw [List.length_map]; exact hL) (by rw [List.length_map]; exact hc) (by rw [hmap]; simpa using h3)
      rw [hmap, List.length_map] at this
      refine this.mono fun e w' h => ⟨_, h.1, grow_below h.2, fun γ imm _ _ => ?_⟩
      show RepV γ imm w' _ (.string ⟨(Lib.join L (c.toArray.toList)).toArray⟩)
      rw [show c.toArray.toList = c by simp]
      exact .pure (.str _)
  · cases h
attribute [push_cast] ckJoin
theorem join_sl : ∀ {L : List (List UInt8)}, L ≠ [] → 47 :: Lib.join L [47] = joinSl L
  | [a], _ => by simp [Lib.join, joinSl, List.intercalate]
  | a :: b :: r, _ => by
    have ih := join_sl (L := b :: r) (by simp)
    have e : Lib.join (a :: b :: r) [47] = a ++ (47 :: Lib.join (b :: r) [47]) := by
      simp [Lib.join, List.intercalate, List.intersperse]
    rw [e, ih]
    simp [joinSl]
def ckTrimLeft : Ck
  | [.str s, .str c] => some (c.length < 4294967281 ∧ asciiC c = true, .str (Lib.trimLeftS s c))
  | _ => none
theorem conTrimLeft : Con pg 101 ckTrimLeft := by
  intro args q r h hq
  unfold ckTrimLeft at h
  split at h
  · cases h
    rename_i s c
    refine pcall_shelf (by kernel_rfl) rfl fun w hw => (Tryz.strings_TrimLeftL ⟨s.toArray⟩ ⟨c.toArray⟩ w ?_ ?_).mono fun e w' h => ?_
    · show c.toArray.size < _
      have := hq.1
      simp; omega
    · exact asciiC_at hq.2
    · exact shelf_str h.1 (grow_below h.2)
  · cases h
attribute [push_cast] ckTrimLeft
theorem trimLeft_z (s : List UInt8) : Lib.trimLeftS s [48] = trimZ s := by
  unfold Lib.trimLeftS trimZ
  congr 1
  funext c
  rw [Bool.eq_iff_iff]
  simp

def adrOk (a : Adr) : Prop := a.sc.length ≤ 140737488355328 ∧ a.ho.length ≤ 140737488355328 ∧ a.po.length ≤ 140737488355328 ∧ a.pa.length ≤ 140737488355328 ∧ a.qu.length ≤ 140737488355328 ∧ a.fr.length ≤ 140737488355328
theorem isRow_0 (s : List UInt8) : ((reL s [] (s.length + 1) 0).2 && ((reL s [] (s.length + 1) 0).1 == s.length)) = rowR s := by
  have h := row_same (s := s) ok_3 0
  have e1 : rdRow s 0 [] = reL s [] (s.length + 1) 0 := by unfold rdRow; rw [List.drop_zero]
  have e2 : utN s 0 [] = s.length := by
    unfold utN
    rw [List.drop_zero]
    exact runN_at (Nat.le_refl _) (fun j _ => rfl) (fun h => absurd h (Nat.lt_irrefl _))
  have e3 : cutS s 0 s.length = s := by unfold cutS; rw [List.drop_zero, List.take_length]
  rw [e1, e2, e3] at h
  rw [h, ← rb0_iff]
  by_cases h0 : rb0 s < 0
  · rw [if_pos h0, decide_eq_true h0]; simp
  · rw [if_neg h0, decide_eq_false h0]; rfl
def ckBehind : Ck
  | [.agg [.str sc, .str ho, .str po, .str pa, .str qu, .bool hq, .str fr, .bool hf]] => some (adrOk ⟨sc, ho, po, pa, qu, hq, fr, hf⟩, .str (behL ⟨sc, ho, po, pa, qu, hq, fr, hf⟩))
  | _ => none
theorem conBehind : Con pg 99 ckBehind := by
  have hct := ctN_ok pg
  intro args q r h hq
  unfold ckBehind at h
  split at h
  · cases h
    rename_i sc ho po pa qu hq1 fr hf
    refine w99 (fun _ => false) [] rfl hct rfl rfl ?_
    push_cast (config := { maxSteps := 10000000 })
    obtain ⟨h1, h2, h3, h4, h5, h6⟩ := hq
    simp only at h1 h2 h3 h4 h5 h6
    refine ⟨fun a => ⟨by omega, by omega, fun b => ⟨by omega, by omega, ?_⟩, fun b => ?_⟩, fun a => ⟨fun b => ⟨by omega, by omega, ?_⟩, fun b => ?_⟩⟩
    all_goals subst a b
    all_goals simp [behL]
  · cases h
attribute [push_cast] ckBehind
def ckWrite1 : Ck
  | [.agg [.str sc, .str ho, .str po, .str pa, .str qu, .bool hq, .str fr, .bool hf]] => some (adrOk ⟨sc, ho, po, pa, qu, hq, fr, hf⟩, .str (wrL ⟨sc, ho, po, pa, qu, hq, fr, hf⟩))
  | _ => none
theorem conWrite1 : Con pg 52 ckWrite1 := by
  have hct := (ctA_ok conBehind (ctN_ok _))
  intro args q r h hq
  unfold ckWrite1 at h
  split at h
  · cases h
    rename_i sc ho po pa qu hq1 fr hf
    refine w52 (fun _ => false) [] rfl hct rfl rfl ?_
    push_cast (config := { maxSteps := 10000000 })
    obtain ⟨h1, h2, h3, h4, h5, h6⟩ := hq
    simp only at h1 h2 h3 h4 h5 h6
    have hb : ((behL ⟨sc, ho, po, pa, qu, hq1, fr, hf⟩).length : Int) ≤ 422212465065986 := by
      unfold behL
      simp only [List.length_append]
      have q1 : (if hq1 = true then 63 :: qu else []).length ≤ qu.length + 1 := by split <;> simp
      have q2 : (if hf = true then 35 :: fr else []).length ≤ fr.length + 1 := by split <;> simp
      omega
    refine ⟨by omega, by omega, fun h => ⟨by omega, by omega, ⟨h1, h2, h3, h4, h5, h6⟩, by omega, ?_⟩, fun h => ⟨⟨h1, h2, h3, h4, h5, h6⟩, by omega, ?_⟩⟩
    · unfold wrL; simp only; rw [if_neg h]; rfl
    · unfold wrL; simp only; rw [if_pos h, List.append_nil]; rfl
  · cases h
attribute [push_cast] ckWrite1
def ckCheckAdr : Ck
  | [.agg [.str sc, .str ho, .str po, .str pa, .str qu, .bool hq, .str fr, .bool hf]] => some (adrOk ⟨sc, ho, po, pa, qu, hq, fr, hf⟩, .int .i64 (checkAdrL ⟨sc, ho, po, pa, qu, hq, fr, hf⟩))
  | _ => none
theorem conCheckAdr : Con pg 21 ckCheckAdr := by
  have hct := (ctA_ok conSmallA (ctA_ok conIsHost0 (ctA_ok conPortOf (ctA_ok conIsRow (ctA_ok conWrite1 (ctN_ok _))))))
  intro args q r h hq
  unfold ckCheckAdr at h
  split at h
  · cases h
    rename_i sc ho po pa qu hq1 fr hf
    refine w21 (fun _ => false) [] rfl hct rfl rfl ?_
    push_cast (config := { maxSteps := 10000000 })
    obtain ⟨h1, h2, h3, h4, h5, h6⟩ := hq
    simp only at h1 h2 h3 h4 h5 h6
    have bP : (0 < (pa.length : Int)) ↔ ¬ pa = [] := by
      constructor
      · intro h e; subst e; simp at h
      · exact sne_pos
    have rP := rowP_re pa
    have rQ := isRow_0 qu
    have rF := isRow_0 fr
    rw [Bool.eq_iff_iff, Bool.and_eq_true, beq_iff_eq] at rP rQ rF
    have ok : adrOk ⟨sc, ho, po, pa, qu, hq1, fr, hf⟩ := ⟨h1, h2, h3, h4, h5, h6⟩
    have e47 : ((pa.getD 0 0).toNat : Int) = 47 ↔ (pa.getD 0 0).toNat = 47 := by omega
    have syn : synA ⟨sc, ho, po, pa, qu, hq1, fr, hf⟩ = true ↔ (((((((lowL sc = [104, 116, 116, 112] ∨ lowL sc = [104, 116, 116, 112, 115]) ∧ hostL ho = true) ∧ (po = [] ∨ ¬ portN po = 0)) ∧ (pa = [] ∨ ((pa.getD 0 0).toNat : Int) = 47)) ∧ ((reL pa [63] (pa.length + 1) 0).2 = true ∧ (reL pa [63] (pa.length + 1) 0).1 = pa.length)) ∧ ((reL qu [] (qu.length + 1) 0).2 = true ∧ (reL qu [] (qu.length + 1) 0).1 = qu.length)) ∧ ((reL fr [] (fr.length + 1) 0).2 = true ∧ (reL fr [] (fr.length + 1) 0).1 = fr.length)) := by
      rw [rP, rQ, rF, e47]
      unfold synA schOk
      simp only [Bool.and_eq_true, Bool.or_eq_true, beq_iff_eq, decide_eq_true_eq, ne_eq]
      rfl
    have kb : ¬ synA ⟨sc, ho, po, pa, qu, hq1, fr, hf⟩ = true → 10 = checkAdrL ⟨sc, ho, po, pa, qu, hq1, fr, hf⟩ := fun h => by
      unfold checkAdrL; rw [if_pos (by simpa using h)]
    have k3 : synA ⟨sc, ho, po, pa, qu, hq1, fr, hf⟩ = true → (¬qu = [] ∧ hq1 = false) ∨ (¬fr = [] ∧ hf = false) → 3 = checkAdrL ⟨sc, ho, po, pa, qu, hq1, fr, hf⟩ := fun h h' => by
      unfold checkAdrL; rw [if_neg (by rw [h]; simp), if_pos h']
    have k2 : synA ⟨sc, ho, po, pa, qu, hq1, fr, hf⟩ = true → ¬ ((¬qu = [] ∧ hq1 = false) ∨ (¬fr = [] ∧ hf = false)) → 2000 < ((wrL ⟨sc, ho, po, pa, qu, hq1, fr, hf⟩).length : Int) → 2 = checkAdrL ⟨sc, ho, po, pa, qu, hq1, fr, hf⟩ := fun h h' h'' => by
      unfold checkAdrL; rw [if_neg (by rw [h]; simp), if_neg h', if_pos (by omega)]
    have k0 : synA ⟨sc, ho, po, pa, qu, hq1, fr, hf⟩ = true → ¬ ((¬qu = [] ∧ hq1 = false) ∨ (¬fr = [] ∧ hf = false)) → ¬ 2000 < ((wrL ⟨sc, ho, po, pa, qu, hq1, fr, hf⟩).length : Int) → 0 = checkAdrL ⟨sc, ho, po, pa, qu, hq1, fr, hf⟩ := fun h h' h'' => by
      unfold checkAdrL; rw [if_neg (by rw [h]; simp), if_neg h', if_neg (by omega)]
    rw [syn] at kb k3 k2 k0
    clear syn e47 rP rQ rF
    generalize checkAdrL ⟨sc, ho, po, pa, qu, hq1, fr, hf⟩ = X at *
    generalize ((wrL ⟨sc, ho, po, pa, qu, hq1, fr, hf⟩).length : Int) = W at *
    generalize reL pa [63] (pa.length + 1) 0 = A1 at *
    generalize reL qu [] (qu.length + 1) 0 = A2 at *
    generalize reL fr [] (fr.length + 1) 0 = A3 at *
    generalize ((pa.getD 0 0).toNat : Int) = A4 at *
    generalize (portN po) = A5 at *
    generalize (hostL ho) = A6 at *
    have l1 : pa.length ≤ 4611686018427387900 := by omega
    have l2 : qu.length ≤ 4611686018427387900 := by omega
    have l3 : fr.length ≤ 4611686018427387900 := by omega
    have l4 : po.length ≤ 4611686018427387900 := by omega
    have l5 : ho.length ≤ 4611686018427387904 := by omega
    clear hct
    (repeat' (first | apply And.intro | intro _)) <;> first | assumption | omega | grind
  · cases h
attribute [push_cast] ckCheckAdr

theorem wfL_rowR : ∀ (s : List UInt8), rowR s = true → wfL s = true
  | [], _ => rfl
  | [a], h => by
    simp only [rowR, hex2, Bool.or_false, Bool.and_true, Bool.and_eq_true, decide_eq_true_eq] at h
    have : a ≠ 37 := fun e => h.2 (by rw [e]; rfl)
    simp [wfL, this]
  | [a, b], h => by
    simp only [rowR, hex2, Bool.or_false, Bool.and_true, Bool.and_eq_true, decide_eq_true_eq] at h
    have h1 : a ≠ 37 := fun e => h.1.2 (by rw [e]; rfl)
    have h2 : b ≠ 37 := fun e => h.2.2 (by rw [e]; rfl)
    simp [wfL, h1, h2]
  | c :: a :: b :: r, h => by
    rw [rowR] at h
    simp only [Bool.and_eq_true, Bool.or_eq_true, decide_eq_true_eq] at h
    by_cases hc : c = 37
    · have h2 := h.1.2.resolve_left (fun x => x (by rw [hc]; rfl))
      simp only [hex2, Bool.and_eq_true] at h2
      have hr := rowR_tail [a, b] h.2
      rw [wfL, if_pos hc, Bool.and_eq_true, Bool.and_eq_true]
      exact ⟨h2, wfL_rowR r hr⟩
    · rw [wfL, if_neg hc]
      exact wfL_rowR (a :: b :: r) h.2
def ckUndot : Ck
  | [.str s] => some (s.length ≤ 2000, .str (undotL s))
  | _ => none
theorem spl_sum (c : UInt8) : ∀ s : List UInt8, (spl c s).length ≤ s.length + 1
  | [] => by simp [spl]
  | x :: t => by
    have := spl_sum c t
    have := List.length_pos_iff.2 (spl_ne c t)
    rw [spl]
    split
    · simp only [List.length_cons]; omega
    · simp only [List.length_cons, List.length_tail]; omega
theorem conUndot : Con pg 103 ckUndot := by
  have hct := (ctA_ok conSplit (ctA_ok conJoin (ctN_ok _)))
  intro args q r h hq
  unfold ckUndot at h
  split at h
  · cases h
    rename_i s
    refine w103 (fun d => decide (d = 20012)) [] rfl hct rfl rfl ?_
    push_cast (config := { maxSteps := 10000000 })
    refine ⟨fun h => by subst h; rfl, fun h => ?_⟩
    have h1 : 1 ≤ s.length := List.length_pos_iff.2 h
    have eU : undotL s = joinSl (dotGo (splitL (s.drop 1) 47) []) := by unfold undotL; rw [if_neg h]
    rw [eU]
    (repeat (refine ⟨by omega, ?_⟩))
    have hP0 : (splitL (s.drop 1) 47).length ≤ 2000 := by
      have := splitL_le (s.drop 1) 47
      rw [List.length_drop] at this; omega
    have hPn : splitL (s.drop 1) 47 ≠ [] := by rw [splitL_eq]; exact spl_ne _ _
    have hPl : ∀ x ∈ splitL (s.drop 1) 47, x.length ≤ 2000 := fun x hx => by
      rw [splitL_eq] at hx
      have := spl_len 47 _ x hx
      rw [List.length_drop] at this; omega
    have hJl := dotGo_len (splitL (s.drop 1) 47) []
    have hJs : (joinSl (splitL (s.drop 1) 47)).length ≤ 2000 := by
      rw [splitL_eq, joinSl_spl, List.length_cons, List.length_drop]; omega
    have hDn := dotGo_ne (splitL (s.drop 1) 47) [] hPn
    generalize splitL (s.drop 1) 47 = P at *
    refine LoopW.adj ⟨hct, fol⟩ (by kernel_rfl) [.nv 4 8000 1 (lsF cStr [])] (fun t : Nat × List (List UInt8) => [(3, .sl P.length (lsF cStr P)), (4, .vec 8000 t.2.length), (12, .sl P.length (lsF cStr P)), (13, .int .i64 P.length), (14, .int .i64 t.1)]) (fun t => [(8000, .vec 1 t.2.length (lsF cStr t.2))]) (fun t => t.1 ≤ P.length ∧ t.2.length ≤ t.1 ∧ dotGo (P.drop t.1) t.2 = dotGo P []) (fun t => P.length - t.1) (0, []) ?_ fun t ht => ?_
    · push_cast (config := { maxSteps := 10000000 })
      exact Nat.zero_le _
    · obtain ⟨i, o⟩ := t
      obtain ⟨i1, i2, i3⟩ : i ≤ P.length ∧ o.length ≤ i ∧ dotGo (P.drop i) o = dotGo P [] := ht
      push_cast (config := { maxSteps := 10000000 })
      refine ⟨fun hlt => ⟨hlt, ?_⟩, fun hge => ?_⟩
      · rw [dropG (d := []) hlt, dotGo] at i3
        have hne : P.drop (i + 1) = [] ↔ i + 1 = P.length := by
          rw [List.drop_eq_nil_iff]; omega
        refine SeqW.cut ⟨hct, fol⟩ (by kernel_rfl) (by kernel_rfl) [.trim 4] (fun o' : List (List UInt8) => [(3, .sl P.length (lsF cStr P)), (4, .vec 8000 o'.length), (5, .int .i64 i), (12, .sl P.length (lsF cStr P)), (13, .int .i64 P.length), (14, .int .i64 i)]) (fun o' => [(8000, .vec 1 o'.length (lsF cStr o'))]) (fun o' => o'.length ≤ i ∧ dotGo (P.drop (i + 1)) (if i + 1 = P.length then o' ++ [[]] else o') = dotGo P []) ?_ fun o' ho => ?_
        · push_cast (config := { maxSteps := 10000000 })
          have dl : ∀ j, j < o.length - 1 → V.str (o.getD j []) = V.str (o.dropLast.getD j []) := fun j hj => by
            rw [List.getD_eq_getElem?_getD, List.getD_eq_getElem?_getD, List.getElem?_dropLast, if_pos hj]
          refine ⟨fun h => ⟨⟨by omega, by omega⟩, ⟨⟨by omega, by omega⟩, by omega⟩, o.dropLast, ⟨by rw [List.length_dropLast]; omega, ?_⟩, by rw [List.length_dropLast]; omega, by rw [List.length_dropLast]; omega, fun j hj => dl j (by omega)⟩, fun h => ⟨fun h2 => ⟨⟨by omega, by omega⟩, ⟨by omega, by omega⟩, ((i + 1, o ++ [P.getD i []]) : Nat × List (List UInt8)), ⟨by show i + 1 ≤ _; omega, by show (o ++ [_]).length ≤ i + 1; simp; omega, ?_⟩, by show P.length - (i + 1) < P.length - i; omega, ⟨by simp, by show (i : Int) + 1 = ((i + 1 : Nat) : Int); omega⟩, by simp, fun j hj => ?_⟩, fun h2 => ⟨o, ⟨i2, ?_⟩, rfl, rfl, fun _ _ => rfl⟩⟩⟩
          · rw [if_pos h] at i3
            by_cases e : i + 1 = P.length
            · rw [if_pos (hne.2 e)] at i3; rw [if_pos e]; exact i3
            · rw [if_neg (fun x => e (hne.1 x))] at i3; rw [if_neg e]; exact i3
          · rw [if_neg h, if_neg h2] at i3; exact i3
          · exact (LsI.app (c := cStr) (f := lsF cStr o) (g := litF [cStr.enc (P.getD i [])]) (LsI.ls o) (LsI.one (c := cStr) (a := P.getD i []) rfl) rfl).2 j hj
          · rw [if_neg h, if_pos h2] at i3
            by_cases e : i + 1 = P.length
            · rw [if_pos (hne.2 e)] at i3; rw [if_pos e]; exact i3
            · rw [if_neg (fun x => e (hne.1 x))] at i3; rw [if_neg e]; exact i3
        · push_cast (config := { maxSteps := 10000000 })
          obtain ⟨o1, o2⟩ := ho
          refine ⟨⟨by omega, by omega⟩, fun h => ⟨⟨by omega, by omega⟩, ⟨by omega, by omega⟩, ((i + 1, o' ++ [[]]) : Nat × List (List UInt8)), ⟨by show i + 1 ≤ _; omega, by show (o' ++ [_]).length ≤ i + 1; simp; omega, by rw [if_pos (by omega)] at o2; exact o2⟩, by show P.length - (i + 1) < P.length - i; omega, ⟨by simp, by show (i : Int) + 1 = ((i + 1 : Nat) : Int); omega⟩, by simp, fun j hj => ?_⟩, fun h => ⟨⟨by omega, by omega⟩, ((i + 1, o') : Nat × List (List UInt8)), ⟨by show i + 1 ≤ _; omega, by show o'.length ≤ i + 1; omega, by rw [if_neg (by omega)] at o2; exact o2⟩, by show P.length - (i + 1) < P.length - i; omega, ⟨rfl, by show (i : Int) + 1 = ((i + 1 : Nat) : Int); omega⟩, rfl, fun _ _ => rfl⟩⟩
          exact (LsI.app (c := cStr) (f := lsF cStr o') (g := litF [cStr.enc []]) (LsI.ls o') (LsI.one (c := cStr) (a := []) rfl) rfl).2 j hj
      · rw [List.drop_eq_nil_of_le (by omega), dotGo] at i3
        rw [← i3] at hJl hDn ⊢
        have hj := join_sl (L := o) hDn
        have hlen := congrArg List.length hj
        rw [List.length_cons] at hlen
        have h0 : (joinSl []).length = 0 := rfl
        exact ⟨⟨by omega, by omega⟩, by omega, hj⟩
  · cases h
attribute [push_cast] ckUndot
def ckNormA : Ck
  | [.agg [.str sc, .str ho, .str po, .str pa, .str qu, .bool hq, .str fr, .bool hf]] => some (checkAdrL ⟨sc, ho, po, pa, qu, hq, fr, hf⟩ = 0, cAdr.enc (normA ⟨sc, ho, po, pa, qu, hq, fr, hf⟩))
  | _ => none
theorem check_sz {a : Adr} (h : checkAdrL a = 0) : synA a = true ∧ (wrL a).length ≤ 2000 ∧ a.sc.length ≤ 2000 ∧ a.ho.length ≤ 2000 ∧ a.po.length ≤ 2000 ∧ a.pa.length ≤ 2000 ∧ a.qu.length ≤ 2000 ∧ a.fr.length ≤ 2000 := by
  unfold checkAdrL at h
  split at h
  · cases h
  rename_i h1
  split at h
  · cases h
  rename_i h2
  split at h
  · cases h
  rename_i h3
  have hw : (wrL a).length ≤ 2000 := by omega
  have hw' := hw
  unfold wrL behL at hw'
  simp only [List.length_append] at hw'
  have hp : a.po.length ≤ (if a.po = [] then [] else 58 :: a.po).length := by split <;> simp_all
  have hq : a.qu.length ≤ (if a.hq = true then 63 :: a.qu else []).length := by
    split
    · simp
    · have : a.qu = [] := Classical.byContradiction fun x => h2 (.inl ⟨x, by simp_all⟩)
      rw [this]; simp
  have hf : a.fr.length ≤ (if a.hf = true then 35 :: a.fr else []).length := by
    split
    · simp
    · have : a.fr = [] := Classical.byContradiction fun x => h2 (.inr ⟨x, by simp_all⟩)
      rw [this]; simp
  exact ⟨by simpa using h1, hw, by omega, by omega, by omega, by omega, by omega, by omega⟩
theorem syn_wf {a : Adr} (h : synA a = true) : wfL a.pa = true ∧ wfL a.qu = true := by
  unfold synA at h
  simp only [Bool.and_eq_true] at h
  have h1 := h.1.1.2
  rw [rowP_rowR, Bool.and_eq_true] at h1
  exact ⟨wfL_rowR _ h1.1, wfL_rowR _ h.1.2⟩
theorem conNormA : Con pg 55 ckNormA := by
  have hct := (ctA_ok conSmallA (ctA_ok conTrimLeft (ctA_ok conNormalRow (ctA_ok conUndot (ctN_ok _)))))
  intro args q r h hq
  unfold ckNormA at h
  split at h
  · cases h
    rename_i sc ho po pa qu hq1 fr hf
    refine w55 (fun _ => false) [] rfl hct rfl rfl ?_
    push_cast (config := { maxSteps := 10000000 })
    obtain ⟨z1, z2, z3, z4, z5, z6, z7, z8⟩ := check_sz hq
    obtain ⟨y1, y2⟩ := syn_wf z1
    simp only at z3 z4 z5 z6 z7 z8 y1 y2
    have n1 := normL_len pa
    simp only [trimLeft_z, normA, portA, npL, show wHttp = [104, 116, 116, 112] from rfl, show wHttps = [104, 116, 116, 112, 115] from rfl]
    generalize undotL (normL pa) = up at *
    generalize lowL sc = lsc at *
    generalize trimZ po = tp at *
    (repeat' (first | apply And.intro | intro _)) <;> first | assumption | omega | grind
  · cases h
attribute [push_cast] ckNormA
def ckNormAF : Ck
  | [.agg [.str sc, .str ho, .str po, .str pa, .str qu, .bool hq, .str fr, .bool hf]] => some (checkAdrL ⟨sc, ho, po, pa, qu, hq, fr, hf⟩ = 0, .tup [cAdr.enc (if checkAdrL (normA ⟨sc, ho, po, pa, qu, hq, fr, hf⟩) = 0 then normA ⟨sc, ho, po, pa, qu, hq, fr, hf⟩ else noAdr), .int .i64 (checkAdrL (normA ⟨sc, ho, po, pa, qu, hq, fr, hf⟩))])
  | _ => none
theorem ok_sz {a : Adr} (h : checkAdrL a = 0) : adrOk a := by
  obtain ⟨z1, z2, z3, z4, z5, z6, z7, z8⟩ := check_sz h
  unfold adrOk
  omega
theorem undotL_len (s : List UInt8) : (undotL s).length ≤ s.length + 1 := by
  unfold undotL
  split
  · simp
  · have h := dotGo_len (splitL (s.drop 1) 47) []
    have h2 := congrArg List.length (joinSl_spl (s.drop 1))
    rw [← splitL_eq, List.length_cons, List.length_drop] at h2
    have h0 : (joinSl []).length = 0 := rfl
    omega
theorem norm_ok {a : Adr} (h : checkAdrL a = 0) : adrOk (normA a) := by
  obtain ⟨z1, z2, z3, z4, z5, z6, z7, z8⟩ := check_sz h
  have h1 := undotL_len (normL a.pa)
  have h2 := normL_len a.pa
  have h3 := normL_len a.qu
  have h4 := trimZ_len a.po
  have h5 : (portA a).length ≤ (trimZ a.po).length := by unfold portA; split <;> simp
  have h6 : (npL a).length ≤ 2001 := by
    unfold npL
    split
    · simp
    · omega
  have h7 := lowL_len a.sc
  have h8 := lowL_len a.ho
  have h9 : ([] : List UInt8).length = 0 := rfl
  unfold adrOk
  exact ⟨by show (lowL a.sc).length ≤ _; omega, by show (lowL a.ho).length ≤ _; omega, by show (portA a).length ≤ _; omega, by show (npL a).length ≤ _; omega, by show (normL a.qu).length ≤ _; omega, by show ([] : List UInt8).length ≤ _; omega⟩
theorem conNormAF : Con pg 23 ckNormAF := by
  have hct := (ctA_ok conCheckAdr (ctA_ok conNormA (ctN_ok _)))
  intro args q r h hq
  unfold ckNormAF at h
  split at h
  · cases h
    rename_i sc ho po pa qu hq1 fr hf
    refine w23 (fun _ => false) [] rfl hct rfl rfl ?_
    push_cast (config := { maxSteps := 10000000 })
    have a1 := ok_sz hq
    generalize (⟨sc, ho, po, pa, qu, hq1, fr, hf⟩ : Adr) = a at *
    have a2 : adrOk (normA a) := norm_ok hq
    rw [show (⟨(normA a).sc, (normA a).ho, (normA a).po, (normA a).pa, (normA a).qu, (normA a).hq, (normA a).fr, (normA a).hf⟩ : Adr) = normA a from rfl]
    refine ⟨a1, fun h => absurd hq h, fun _ => ⟨hq, a2, fun h => ?_, fun h => ?_⟩⟩
    · rw [if_neg h]; exact ⟨rfl, rfl, rfl, rfl, rfl, rfl, rfl, rfl⟩
    · rw [if_pos h]; exact ⟨⟨rfl, rfl, rfl, rfl, rfl, rfl, rfl, rfl⟩, h.symm⟩
  · cases h
attribute [push_cast] ckNormAF

def ckIsSch1 : Ck
  | [.str s] => some (s.length ≤ 140737488355328, .bool (schOk s))
  | _ => none
attribute [push_cast] ckIsSch1
def ckUnhex1 : Ck
  | [.int .u8 c] => some (0 ≤ c ∧ c < 256 ∧ isHex c = true, .int .i64 (hexV c))
  | _ => none
theorem unhex1_key : ∀ n, n < 128 → isHex ((n : Nat) : Int) = true → Lib.indexByte [48, 49, 50, 51, 52, 53, 54, 55, 56, 57, 97, 98, 99, 100, 101, 102] (lowB (UInt8.ofNat n)) = hexV ((n : Nat) : Int) := by decide +kernel
theorem hex_128 {c : Int} (h : isHex c = true) : 48 ≤ c ∧ c < 128 := by
  simp only [isHex, isDig, Bool.or_eq_true, Bool.and_eq_true, decide_eq_true_eq] at h
  omega
attribute [push_cast] ckUnhex1
def ckCoded : Ck
  | [.str s] => some (wfL s = true ∧ s.length ≤ 1073741824, .str (normL s))
  | _ => none
attribute [push_cast] ckCoded
def dotF : List (List UInt8) → List (List UInt8) → List (List UInt8)
  | [], o => o
  | p :: t, o => if p = [46, 46] then dotF t o.dropLast else if p = [46] then dotF t o else dotF t (o ++ [p])
def lastP (P : List (List UInt8)) : List UInt8 := P.getD (P.length - 1) []
theorem dotGo_F : ∀ (t o : List (List UInt8)), t ≠ [] → dotGo t o = dotF t o ++ (if lastP t = [46] ∨ lastP t = [46, 46] then [[]] else [])
  | [p], o, _ => by
    have e : lastP [p] = p := rfl
    rw [dotGo, dotF, e]
    by_cases h1 : p = [46, 46]
    · simp [h1, dotGo, dotF]
    · by_cases h2 : p = [46]
      · simp [h2, dotGo, dotF]
      · simp [h1, h2, dotGo, dotF]
  | p :: q :: t, o, _ => by
    have e : lastP (p :: q :: t) = lastP (q :: t) := by unfold lastP; simp
    rw [dotGo, dotF, e]
    have n : ¬ q :: t = [] := by simp
    rw [if_neg n, if_neg n]
    split
    · exact dotGo_F (q :: t) _ n
    · split <;> exact dotGo_F (q :: t) _ n
theorem dotF_len : ∀ (t o : List (List UInt8)), (dotF t o).length ≤ t.length + o.length
  | [], o => by simp [dotF]
  | p :: t, o => by
    rw [dotF]
    split
    · have := dotF_len t o.dropLast; rw [List.length_dropLast] at this; simp only [List.length_cons]; omega
    · split
      · have := dotF_len t o; simp only [List.length_cons]; omega
      · have := dotF_len t (o ++ [p]); simp only [List.length_append, List.length_cons, List.length_nil] at this ⊢; omega
def ckDots1 : Ck
  | [.str s] => some (s.length ≤ 2000 ∧ (s = [] ∨ s.getD 0 0 = 47), .str (undotL s))
  | _ => none
attribute [push_cast] ckDots1
theorem pathL_len {a : Adr} (h : checkAdrL a = 0) : (pathL a).length ≤ 4100 := by
  obtain ⟨z1, z2, z3, z4, z5, z6, z7, z8⟩ := check_sz h
  have h1 := undotL_len (normL a.pa)
  have h2 := normL_len a.pa
  have h3 := normL_len a.qu
  have h6 : (npL a).length ≤ 2001 := by
    unfold npL
    split
    · simp
    · omega
  unfold pathL
  rw [List.length_append]
  split
  · rw [List.length_cons]; omega
  · simp; omega
def ckPathOf : Ck
  | [.agg [.str sc, .str ho, .str po, .str pa, .str qu, .bool hq, .str fr, .bool hf]] => some (checkAdrL ⟨sc, ho, po, pa, qu, hq, fr, hf⟩ = 0, .str (pathL ⟨sc, ho, po, pa, qu, hq, fr, hf⟩))
  | _ => none
theorem conPathOf : Con pg 28 ckPathOf := by
  have hct := (ctA_ok conNormAF (ctA_ok conNormalRowS (ctN_ok _)))
  intro args q r h hq
  unfold ckPathOf at h
  split at h
  · cases h
    rename_i sc ho po pa qu hq1 fr hf
    refine w28 (fun _ => false) [] rfl hct rfl rfl ?_
    push_cast (config := { maxSteps := 10000000 })
    obtain ⟨z1, z2, z3, z4, z5, z6, z7, z8⟩ := check_sz hq
    have p1 := path_same hq _ rfl
    generalize ea : (⟨sc, ho, po, pa, qu, hq1, fr, hf⟩ : Adr) = a at *
    obtain ⟨rfl, rfl, rfl, rfl, rfl, rfl, rfl, rfl⟩ : sc = a.sc ∧ ho = a.ho ∧ po = a.po ∧ pa = a.pa ∧ qu = a.qu ∧ hq1 = a.hq ∧ fr = a.fr ∧ hf = a.hf := by subst ea; exact ⟨rfl, rfl, rfl, rfl, rfl, rfl, rfl, rfl⟩
    obtain ⟨o1, o2, o3, o4, o5, o6⟩ := norm_ok hq
    have n3 := normL_len a.qu
    refine ⟨hq, fun h => ?_, fun h => ?_⟩
    · rw [if_neg h] at p1
      refine ⟨by omega, fun h2 => ⟨by omega, ?_⟩, fun h2 => ?_⟩
      · rw [← p1, h2]; rfl
      · rw [← p1, h2]; rfl
    · rw [if_pos h] at p1 ⊢
      refine ⟨fun h2 => ⟨by omega, by omega, ?_⟩, fun h2 => ?_⟩
      · rw [← p1, if_pos h2, List.append_assoc]; rfl
      · rw [← p1, if_neg (by rw [h2]; simp), List.append_nil]
  · cases h
attribute [push_cast] ckPathOf

def ckAtoiE : Ck
  | [.str s] => some (s.length ≤ 18 ∧ s.all isDg = true, .tup [.int .i64 (natOf s), .any])
  | _ => none
attribute [push_cast] ckAtoiE

theorem dg_dig (s : List UInt8) : s.all digB = s.all isDg := by
  congr 1
  funext c
  unfold digB isDg isDig
  rw [Bool.eq_iff_iff]
  simp only [Bool.and_eq_true, decide_eq_true_eq]
  omega
theorem natOf_z (s : List UInt8) : natOf (trimZ s) = natOf s := by
  induction s with
  | nil => rfl
  | cons c t ih =>
    by_cases hc : c = 48
    · subst hc
      have e : trimZ (48 :: t) = trimZ t := by unfold trimZ; rw [List.dropWhile_cons, if_pos (by decide)]
      rw [e, ih]; rfl
    · have e : trimZ (c :: t) = c :: t := by unfold trimZ; rw [List.dropWhile_cons, if_neg (by simpa using hc)]
      rw [e]
theorem trimZ_head (s : List UInt8) (h : trimZ s ≠ []) : (trimZ s).getD 0 0 ≠ 48 := by
  induction s with
  | nil => exact absurd rfl h
  | cons c t ih =>
    by_cases hc : c = 48
    · subst hc
      have e : trimZ (48 :: t) = trimZ t := by unfold trimZ; rw [List.dropWhile_cons, if_pos (by decide)]
      rw [e] at h ⊢; exact ih h
    · have e : trimZ (c :: t) = c :: t := by unfold trimZ; rw [List.dropWhile_cons, if_neg (by simpa using hc)]
      rw [e]; simpa using hc
theorem trimZ_all {s : List UInt8} (h : s.all isDg = true) : (trimZ s).all isDg = true := by
  rw [List.all_eq_true] at h ⊢
  exact fun x hx => h x ((List.dropWhile_sublist _).subset hx)
theorem port_facts {s : List UInt8} (h : s = [] ∨ portN s ≠ 0) : s.length ≤ 18 ∧ s.all isDg = true ∧ natOf s ≤ 99999 ∧ (natOf s = 0 → trimZ s = []) ∧ (natOf s ≠ 0 → Lib.itoa (natOf s : Nat) = trimZ s ∧ trimZ s ≠ []) := by
  rcases h with h | h
  · subst h
    exact ⟨by decide, rfl, by decide, fun _ => rfl, fun x => absurd rfl x⟩
  · have h5 : 1 ≤ s.length ∧ s.length ≤ 5 ∧ s.all digB = true ∧ portV s ≤ 65535 := Classical.byContradiction fun x => h (by unfold portN; rw [if_neg x])
    obtain ⟨h1, h2, h3, h4⟩ := h5
    rw [dg_dig] at h3
    have hz := trimZ_all h3
    have hlt := natOf_lt s h3
    have hp : 10 ^ s.length ≤ 10 ^ 5 := Nat.pow_le_pow_right (by omega) h2
    have hne : natOf s ≠ 0 → trimZ s ≠ [] := fun h e => h (by rw [← natOf_z, e]; rfl)
    refine ⟨by omega, h3, by omega, fun e => Classical.byContradiction fun hn => ?_, fun hn => ⟨?_, hne hn⟩⟩
    · have := natOf_pos hz (List.length_pos_iff.2 hn) (trimZ_head s hn)
      rw [natOf_z] at this; omega
    · rw [itoa_nat, ← natOf_z, dec_natOf hz (List.length_pos_iff.2 (hne hn)) (.inl (trimZ_head s (hne hn)))]
attribute [push_cast] ckNormA
attribute [push_cast] ckPathOf
def ckPathOfR : Ck
  | [.agg [.str sc, .str ho, .str po, .str pa, .str qu, .bool hq, .str fr, .bool hf]] => some (adrOk ⟨sc, ho, po, pa, qu, hq, fr, hf⟩, .tup [.str (if checkAdrL ⟨sc, ho, po, pa, qu, hq, fr, hf⟩ = 0 then pathL ⟨sc, ho, po, pa, qu, hq, fr, hf⟩ else []), .int .i64 (checkAdrL ⟨sc, ho, po, pa, qu, hq, fr, hf⟩)])
  | _ => none
attribute [push_cast] ckPathOfR
/- the normal form of any address -/
def nrmE (a : Adr) : Int := if checkAdrL a = 0 then checkAdrL (normA a) else checkAdrL a
def nrmA (a : Adr) : Adr := if checkAdrL a = 0 ∧ checkAdrL (normA a) = 0 then normA a else noAdr
def ckNormG : Ck
  | [.agg [.str sc, .str ho, .str po, .str pa, .str qu, .bool hq, .str fr, .bool hf]] => some (adrOk ⟨sc, ho, po, pa, qu, hq, fr, hf⟩, .tup [cAdr.enc (nrmA ⟨sc, ho, po, pa, qu, hq, fr, hf⟩), .int .i64 (nrmE ⟨sc, ho, po, pa, qu, hq, fr, hf⟩)])
  | _ => none
theorem conNormG : Con pg 23 ckNormG := by
  have hct := (ctA_ok conCheckAdr (ctA_ok conNormA (ctN_ok _)))
  intro args q r h hq
  unfold ckNormG at h
  split at h
  · cases h
    rename_i sc ho po pa qu hq1 fr hf
    refine w23 (fun _ => false) [] rfl hct rfl rfl ?_
    push_cast (config := { maxSteps := 10000000 })
    generalize (⟨sc, ho, po, pa, qu, hq1, fr, hf⟩ : Adr) = a at *
    rw [show (⟨(normA a).sc, (normA a).ho, (normA a).po, (normA a).pa, (normA a).qu, (normA a).hq, (normA a).fr, (normA a).hf⟩ : Adr) = normA a from rfl]
    refine ⟨hq, fun h => ?_, fun h => ⟨h, norm_ok h, fun h2 => ?_, fun h2 => ?_⟩⟩
    · unfold nrmA nrmE; rw [if_neg (fun x => h x.1), if_neg h]; exact ⟨⟨rfl, rfl, rfl, rfl, rfl, rfl, rfl, rfl⟩, rfl⟩
    · unfold nrmA nrmE; rw [if_neg (fun x => h2 x.2), if_pos h]; exact ⟨⟨rfl, rfl, rfl, rfl, rfl, rfl, rfl, rfl⟩, rfl⟩
    · unfold nrmA nrmE; rw [if_pos ⟨h, h2⟩, if_pos h]; exact ⟨⟨rfl, rfl, rfl, rfl, rfl, rfl, rfl, rfl⟩, h2.symm⟩
  · cases h
attribute [push_cast] ckNormG
/- what a text means in a page -/
def trimA (s : List UInt8) : List UInt8 := Lib.trimS s [9, 10, 12, 13, 32]
def schC (c : UInt8) : Bool := isLet (c.toNat : Int) || isDig (c.toNat : Int) || decide (c.toNat = 43) || decide (c.toNat = 45) || decide (c.toNat = 46)
def rowN (s : List UInt8) : Nat := if isLet ((s.getD 0 0).toNat : Int) = true then 1 + runN schC (s.drop 1) else 0
def rowA (s : List UInt8) : List UInt8 := if (s.getD (rowN s) 0).toNat = 58 then s.take (rowN s) else []
def lastI (s : List UInt8) (c : UInt8) : Nat → Int
  | 0 => -1
  | n + 1 => if s.getD n 0 = c then n else lastI s c n
theorem lastI_b (s : List UInt8) (c : UInt8) : ∀ n, -1 ≤ lastI s c n ∧ lastI s c n < n
  | 0 => ⟨Int.le_refl _, by show (-1 : Int) < 0; omega⟩
  | n + 1 => by
    have := lastI_b s c n
    rw [lastI]
    split <;> omega
def meantP (b p : List UInt8) : List UInt8 :=
  if (p.getD 0 0).toNat = 47 then p
  else if ((b.take (lastI b 47 b.length + 1).toNat ++ p).getD 0 0).toNat = 47 then b.take (lastI b 47 b.length + 1).toNat ++ p else 47 :: (b.take (lastI b 47 b.length + 1).toNat ++ p)
def meantA (b : Adr) (s : List UInt8) : Adr :=
  if (Lib.cut (Lib.cut s [35]).1 [63]).1 = [] then
    (if (Lib.cut (Lib.cut s [35]).1 [63]).2.2 = true then ⟨b.sc, b.ho, b.po, b.pa, (Lib.cut (Lib.cut s [35]).1 [63]).2.1, true, (Lib.cut s [35]).2.1, (Lib.cut s [35]).2.2⟩
     else ⟨b.sc, b.ho, b.po, b.pa, b.qu, b.hq, (Lib.cut s [35]).2.1, (Lib.cut s [35]).2.2⟩)
  else ⟨b.sc, b.ho, b.po, meantP b.pa (Lib.cut (Lib.cut s [35]).1 [63]).1, (Lib.cut (Lib.cut s [35]).1 [63]).2.1, (Lib.cut (Lib.cut s [35]).1 [63]).2.2, (Lib.cut s [35]).2.1, (Lib.cut s [35]).2.2⟩
def slash2 (s : List UInt8) : Bool := decide (2 ≤ s.length) && (s.take 2 == [47, 47])
/-- what stands there, ahead of its check: the address and the fault -/
def res0 (b : Adr) (s : List UInt8) : Adr × Int :=
  if s = [] then (⟨b.sc, b.ho, b.po, b.pa, b.qu, b.hq, [], false⟩, 0)
  else if lowL (rowA s) ≠ [] then (if lowL (rowA s) ≠ wHttp ∧ lowL (rowA s) ≠ wHttps then (noAdr, 4) else ((readA s).1, (readA s).2.2))
  else if slash2 s = true then ((readA (b.sc ++ 58 :: s)).1, (readA (b.sc ++ 58 :: s)).2.2)
  else (meantA b s, 0)
def resA (b : Adr) (r : List UInt8) : Adr × Int :=
  if checkAdrL b ≠ 0 then (noAdr, checkAdrL b)
  else if 2000 < r.length then (noAdr, 2)
  else if (res0 b (trimA r)).2 ≠ 0 then (noAdr, (res0 b (trimA r)).2)
  else if checkAdrL (res0 b (trimA r)).1 ≠ 0 then (noAdr, checkAdrL (res0 b (trimA r)).1)
  else ({ (res0 b (trimA r)).1 with pa := undotL (res0 b (trimA r)).1.pa }, 0)
theorem cutS_sz (s : List UInt8) (a n : Nat) : (cutS s a n).length ≤ s.length := by
  unfold cutS; rw [List.length_take, List.length_drop]; omega
theorem plc_sz (s : List UInt8) (a : Nat) : (plcL s a).ho.length ≤ s.length ∧ (plcL s a).po.length ≤ s.length := by
  unfold plcL
  split
  · exact ⟨cutS_sz _ _ _, by simp⟩
  · split
    · split
      · exact ⟨cutS_sz _ _ _, cutS_sz _ _ _⟩
      · exact ⟨cutS_sz _ _ _, cutS_sz _ _ _⟩
    · exact ⟨cutS_sz _ _ _, by simp⟩
theorem rst_sz (s : List UInt8) (a : Nat) : (rstL s a).pa.length ≤ s.length ∧ (rstL s a).qu.length ≤ s.length ∧ (rstL s a).fr.length ≤ s.length := by
  have h3 : ∀ d pa qu hq, pa.length ≤ s.length → qu.length ≤ s.length → (rst3 s d pa qu hq).pa.length ≤ s.length ∧ (rst3 s d pa qu hq).qu.length ≤ s.length ∧ (rst3 s d pa qu hq).fr.length ≤ s.length := by
    intro d pa qu hq h1 h2
    unfold rst3
    split
    · exact ⟨h1, h2, cutS_sz _ _ _⟩
    · exact ⟨h1, h2, by simp⟩
  unfold rstL
  split
  · exact ⟨cutS_sz _ _ _, by simp, by simp⟩
  · unfold rst2
    split
    · split
      · exact ⟨cutS_sz _ _ _, cutS_sz _ _ _, by simp⟩
      · exact h3 _ _ _ _ (cutS_sz _ _ _) (cutS_sz _ _ _)
    · exact h3 _ _ _ _ (cutS_sz _ _ _) (by simp)
theorem readA_sz (s : List UInt8) : (readA s).1.sc.length ≤ 2000 ∧ (readA s).1.ho.length ≤ 2000 ∧ (readA s).1.po.length ≤ 2000 ∧ (readA s).1.pa.length ≤ 2000 ∧ (readA s).1.qu.length ≤ 2000 ∧ (readA s).1.fr.length ≤ 2000 := by
  have no : noAdr.sc.length ≤ 2000 ∧ noAdr.ho.length ≤ 2000 ∧ noAdr.po.length ≤ 2000 ∧ noAdr.pa.length ≤ 2000 ∧ noAdr.qu.length ≤ 2000 ∧ noAdr.fr.length ≤ 2000 := by unfold noAdr; simp
  unfold readA
  split
  · exact no
  · rename_i h
    split
    · exact no
    · split
      · exact no
      · split
        · exact no
        · obtain ⟨p1, p2⟩ := plc_sz s (schL s).2
          obtain ⟨r1, r2, r3⟩ := rst_sz s (plcL s (schL s).2).at'
          refine ⟨by show (s.take _).length ≤ _; rw [List.length_take]; omega, ?_, ?_, ?_, ?_, ?_⟩
          · show (plcL s _).ho.length ≤ _; omega
          · show (plcL s _).po.length ≤ _; omega
          · show (rstL s _).pa.length ≤ _; omega
          · show (rstL s _).qu.length ≤ _; omega
          · show (rstL s _).fr.length ≤ _; omega
/- where an answer leads -/
def redL (st : Int) : Bool := decide (st = 301) || decide (st = 302) || decide (st = 303) || decide (st = 307) || decide (st = 308)
def withFr (o a : Adr) : Adr := if o.hf = true then o else { o with fr := a.fr, hf := a.hf }

def ckLast : Ck
  | [.str s, .int .u8 c] => some (s.length ≤ 4611686018427387904 ∧ 0 ≤ c ∧ c < 256, .int .i64 (lastI s (UInt8.ofNat c.toNat) s.length))
  | _ => none
theorem conLast0 : Con pg 142 ckLast := by
  have hct := ctN_ok pg
  intro args q r h hq
  unfold ckLast at h
  split at h
  · cases h
    rename_i s c
    refine w142 (fun _ => false) [] rfl hct rfl rfl ?_
    push_cast (config := { maxSteps := 10000000 })
    obtain ⟨c, rfl, hc⟩ : ∃ b : UInt8, c = b.toNat ∧ b.toNat < 256 := ⟨UInt8.ofNat c.toNat, by simp [UInt8.toNat_ofNat']; omega, UInt8.toNat_lt _⟩
    rw [Int.toNat_natCast, UInt8.ofNat_toNat]
    (repeat (refine ⟨by omega, ?_⟩))
    refine LoopW.adj ⟨hct, fol⟩ (by kernel_rfl) [] (fun i : Nat => [(0, .str s), (1, .int .u8 c.toNat), (5, .int .i64 ((i : Int) - 1))]) (fun _ => []) (fun i => i ≤ s.length ∧ lastI s c i = lastI s c s.length) (fun i => i) s.length ?_ fun i hi => ?_
    · push_cast (config := { maxSteps := 10000000 })
      exact Nat.le_refl _
    · obtain ⟨i1, i2⟩ := hi
      push_cast (config := { maxSteps := 10000000 })
      refine ⟨fun h => ?_, fun h => ?_⟩
      · obtain ⟨j, rfl⟩ : ∃ j, i = j + 1 := ⟨i - 1, by omega⟩
        rw [show (((j + 1 : Nat) : Int) - 1).toNat = j by omega]
        rw [lastI] at i2
        refine ⟨by omega, fun h2 => ?_, fun h2 => ⟨by omega, j, ⟨by omega, ?_⟩, by omega, by omega⟩⟩
        · rw [if_pos (UInt8.toNat_inj.1 (by exact_mod_cast h2))] at i2
          rw [← i2]; omega
        · rw [if_neg (fun e => h2 (by rw [e]))] at i2; exact i2
      · obtain rfl : i = 0 := by omega
        rw [← i2]; rfl
  · cases h
attribute [push_cast] ckLast
theorem conLastIdx : Con pg 109 ckLast := by
  have hct := (ctA_ok conLast0 (ctN_ok _))
  intro args q r h hq
  unfold ckLast at h
  split at h
  · cases h
    rename_i s c
    refine w109 (fun _ => false) [] rfl hct rfl rfl ?_
    push_cast (config := { maxSteps := 10000000 })
    exact hq
  · cases h
attribute [push_cast] ckLast

@[push_cast] theorem adr_eta (a : Adr) : (⟨a.sc, a.ho, a.po, a.pa, a.qu, a.hq, a.fr, a.hf⟩ : Adr) = a := rfl
@[push_cast] theorem ent_eta (a : Ent) : (⟨a.loc, a.day, a.wt⟩ : Ent) = a := rfl
/-- the normal form of the address of an entry -/
def nrmL (s : List UInt8) : Adr := nrmA (readA s).1
theorem readA_ok (s : List UInt8) : adrOk (readA s).1 := by
  obtain ⟨h1, h2, h3, h4, h5, h6⟩ := readA_sz s
  unfold adrOk; omega
theorem nrmA_ok {a : Adr} : adrOk (nrmA a) := by
  unfold nrmA
  split
  · rename_i h; exact norm_ok h.1
  · unfold adrOk noAdr; decide
def ckNormalOf : Ck
  | [.str s] => some (True, cAdr.enc (nrmL s))
  | _ => none
attribute [push_cast] ckNormalOf
def dirL (p : List UInt8) : List UInt8 := p.take (lastI p 47 p.length + 1).toNat
def okPrp (home : Adr) (e : Ent) : Bool := decide (((nrmL e.loc).sc = home.sc ∧ (nrmL e.loc).ho = home.ho) ∧ (nrmL e.loc).po = home.po) && hasPre (nrmL e.loc).pa (dirL home.pa)
def prpL (home : Adr) (l : List Ent) (k : Nat) : List Int := ((List.range k).filter fun i => okPrp home (l.getD i noEnt)).map Int.ofNat
theorem prpL_s (home : Adr) (l : List Ent) (k : Nat) : prpL home l (k + 1) = if okPrp home (l.getD k noEnt) = true then prpL home l k ++ [(k : Int)] else prpL home l k := by
  unfold prpL
  rw [List.range_succ, List.filter_append, List.map_append]
  by_cases h : okPrp home (l.getD k noEnt) = true
  · rw [if_pos h, List.filter_cons_of_pos (p := fun i => okPrp home (l.getD i noEnt)) h]; rfl
  · rw [if_neg h, List.filter_cons_of_neg (p := fun i => okPrp home (l.getD i noEnt)) h]; simp
theorem prp_app (home : Adr) (l : List Ent) (k : Nat) (h : okPrp home (l.getD k noEnt) = true) : (prpL home l k).length + 1 = (prpL home l (k + 1)).length ∧ ∀ i, i < (prpL home l k).length + 1 → appF (prpL home l k).length (fun i => V.int IntKind.i64 ((prpL home l k).getD i 0)) (litF [V.int IntKind.i64 k]) i = V.int IntKind.i64 ((prpL home l (k + 1)).getD i 0) := by
  rw [prpL_s, if_pos h]
  exact ⟨by simp, fun i hi => (LsI.app (c := cInt) (f := lsF cInt (prpL home l k)) (g := litF [cInt.enc (k : Int)]) (LsI.ls _) (LsI.one (c := cInt) (a := (k : Int)) rfl) rfl).2 i hi⟩
theorem prp_no (home : Adr) (l : List Ent) (k : Nat) (h : ¬ okPrp home (l.getD k noEnt) = true) : prpL home l (k + 1) = prpL home l k := by
  rw [prpL_s, if_neg h]
theorem okPrp_iff (home : Adr) (e : Ent) : okPrp home e = true ↔ (((nrmL e.loc).sc = home.sc ∧ (nrmL e.loc).ho = home.ho) ∧ (nrmL e.loc).po = home.po) ∧ hasPre (nrmL e.loc).pa (dirL home.pa) = true := by
  unfold okPrp
  rw [Bool.and_eq_true, decide_eq_true_eq]
theorem prpL_len (home : Adr) (l : List Ent) (k : Nat) : (prpL home l k).length ≤ k := by
  unfold prpL
  rw [List.length_map]
  have := List.length_filter_le (fun i => okPrp home (l.getD i noEnt)) (List.range k)
  rwa [List.length_range] at this
def prpE (m : SMp) (a : Adr) : Int := if chkM m ≠ 0 then chkM m else nrmE a
def prpO (m : SMp) (a : Adr) : List Int := if prpE m a = 0 then prpL (nrmA a) m.en m.en.length else []
def ckProper : Ck
  | [.agg [.bool b, .sl n f], .agg [.str sc, .str ho, .str po, .str pa, .str qu, .bool hq, .str fr, .bool hf]] => some (isLs cEnt n f ∧ n ≤ 4611686018427387904 ∧ adrOk ⟨sc, ho, po, pa, qu, hq, fr, hf⟩, .tup [.sl (prpO ⟨b, lsOf cEnt n f⟩ ⟨sc, ho, po, pa, qu, hq, fr, hf⟩).length (lsF cInt (prpO ⟨b, lsOf cEnt n f⟩ ⟨sc, ho, po, pa, qu, hq, fr, hf⟩)), .int .i64 (prpE ⟨b, lsOf cEnt n f⟩ ⟨sc, ho, po, pa, qu, hq, fr, hf⟩)])
  | _ => none
attribute [push_cast] ckProper
def newB (s : Int) (e : Ent) : Bool := decide (e.day = 0 ∨ s ≤ e.day)
def newE (m : SMp) (s : Int) : Int := if chkM m ≠ 0 then chkM m else if s < 1 ∨ 3652059 < s then 1 else 0
def newL (m : SMp) (s : Int) : List (List UInt8) := if newE m s = 0 then (srtE (m.en.filter (newB s))).map Ent.loc else []
def ckNewer : Ck
  | [.agg [.bool b, .sl n f], .int .i64 s] => some (isLs cEnt n f ∧ n ≤ 4611686018427387904, .tup [.sl (newL ⟨b, lsOf cEnt n f⟩ s).length (lsF cStr (newL ⟨b, lsOf cEnt n f⟩ s)), .int .i64 (newE ⟨b, lsOf cEnt n f⟩ s)])
  | _ => none
theorem conNewer : Con pg 4 ckNewer := by
  have hct := (ctA_ok conCM (ctF_ok conSSFE (ctN_ok _)))
  intro args q r h hq
  unfold ckNewer at h
  split at h
  · cases h
    rename_i b n f s
    obtain ⟨h0, hn⟩ := hq
    rw [← lsOf_len (c := cEnt) n f] at hn
    refine pcall_args (args' := [.agg [.bool b, .sl (lsOf cEnt n f).length (lsF cEnt (lsOf cEnt n f))], .int .i64 s]) ⟨VLe.agg ⟨VLe.refl _, h0.vle, trivial⟩, VLe.refl _, trivial⟩ ?_
    generalize lsOf cEnt n f = l at hn ⊢
    refine w4 (fun _ => false) [.frz 8001] rfl hct rfl rfl ?_
    push_cast (config := { maxSteps := 10000000 })
    refine ⟨hn, fun h => ?_, fun h1 => ⟨fun h => ?_, fun h2 => ?_⟩⟩
    · have e : newE ⟨b, l⟩ s = chkM ⟨b, l⟩ := by unfold newE; rw [if_pos h]
      unfold newL; rw [e, if_neg h]; exact ⟨rfl, rfl⟩
    · have e : newE ⟨b, l⟩ s = 1 := by unfold newE; rw [if_neg (fun x => x h1), if_pos (by omega)]
      unfold newL; rw [e]; exact ⟨rfl, rfl⟩
    have e0 : newE ⟨b, l⟩ s = 0 := by unfold newE; rw [if_neg (fun x => x h1), if_neg (by omega)]
    have eF : newL ⟨b, l⟩ s = (srtE (l.filter (newB s))).map Ent.loc := by unfold newL; rw [if_pos e0]
    have hl1 : l.length ≤ 1000 := by
      unfold chkM at h1
      split at h1
      · cases h1
      · rename_i z; exact Nat.le_of_not_lt z
    rw [e0, eF]
    refine LoopW.adj ⟨hct, fol⟩ (by kernel_rfl) [.nv 7 8000 3 (lsF cEnt [])] (fun t : Nat × List Ent => [(1, .int .i64 s), (7, .vec 8000 t.2.length), (25, .sl l.length (lsF cEnt l)), (26, .int .i64 l.length), (27, .int .i64 t.1)]) (fun t => [(8000, .vec 3 t.2.length (lsF cEnt t.2))]) (fun t => t.1 ≤ l.length ∧ t.2 = (l.take t.1).filter (newB s)) (fun t => l.length - t.1) (0, []) ?_ fun t ht => ?_
    · push_cast (config := { maxSteps := 10000000 })
      exact ⟨Nat.zero_le _, rfl⟩
    · obtain ⟨i, o⟩ := t
      obtain ⟨i1, i2⟩ : i ≤ l.length ∧ o = (l.take i).filter (newB s) := ht
      push_cast (config := { maxSteps := 10000000 })
      have hol : o.length ≤ i := by
        rw [i2]
        have := List.length_filter_le (newB s) (l.take i)
        rw [List.length_take] at this; omega
      have hfs : ∀ h : i < l.length, (l.take (i + 1)).filter (newB s) = if newB s (l.getD i noEnt) = true then o ++ [l.getD i noEnt] else o := fun h => by
        have ht : l.take (i + 1) = l.take i ++ [l.getD i noEnt] := by
          rw [List.getD_eq_getElem?_getD, List.getElem?_eq_getElem h, List.take_succ_eq_append_getElem h]; rfl
        rw [ht, List.filter_append, ← i2]
        by_cases g : newB s (l.getD i noEnt) = true
        · rw [if_pos g, List.filter_cons_of_pos g]; rfl
        · rw [if_neg g, List.filter_cons_of_neg g]; simp
      have hnb : newB s (l.getD i noEnt) = true ↔ ((l.getD i noEnt).day = 0 ∨ s ≤ (l.getD i noEnt).day) := by unfold newB; rw [decide_eq_true_eq]
      refine ⟨fun h => ⟨h, fun g => ⟨⟨by omega, by omega⟩, ⟨by omega, by omega⟩, (i + 1, o ++ [l.getD i noEnt]), ⟨by show i + 1 ≤ _; omega, ?_⟩, by show l.length - (i + 1) < _; omega, ⟨by simp, by show (i : Int) + 1 = ((i + 1 : Nat) : Int); omega⟩, by simp, ?_⟩, fun g => ⟨⟨by omega, by omega⟩, (i + 1, o), ⟨by show i + 1 ≤ _; omega, ?_⟩, by show l.length - (i + 1) < _; omega, ⟨rfl, by show (i : Int) + 1 = ((i + 1 : Nat) : Int); omega⟩, rfl, fun _ _ => rfl⟩⟩, fun h => ?_⟩
      · show o ++ [l.getD i noEnt] = _
        rw [hfs h, if_pos (hnb.2 g)]
      · exact (LsI.app (c := cEnt) (f := lsF cEnt o) (g := litF [cEnt.enc (l.getD i noEnt)]) (LsI.ls o) (LsI.one (c := cEnt) (a := l.getD i noEnt) rfl) rfl).2
      · show o = _
        rw [hfs h, if_neg (fun x => by have := hnb.1 x; omega)]
      refine ⟨by omega, ?_⟩
      rw [List.take_of_length_le (by omega)] at i2
      rw [← i2]
      have eS : (srtE o).length = o.length := srtL_len ltE noEnt o
      rw [← eS]
      generalize srtE o = S at *
      refine LoopW.adj ⟨hct, fol⟩ (by kernel_rfl) [.frz 8000, .nv 10 8001 1 (lsF cStr [])] (fun i : Nat => [(10, .vec 8001 i), (47, .sl S.length (lsF cEnt S)), (48, .int .i64 S.length), (49, .int .i64 i)]) (fun i => [(8001, .vec 1 i (lsF cStr (S.map Ent.loc)))]) (fun i => i ≤ S.length) (fun i => S.length - i) 0 ?_ fun i hi => ?_
      · push_cast (config := { maxSteps := 10000000 })
        exact Nat.zero_le _
      · push_cast (config := { maxSteps := 10000000 })
        refine ⟨fun hlt => ⟨hlt, ⟨by omega, by omega⟩, ⟨by omega, by omega⟩, i + 1, by omega, by omega, ⟨rfl, by omega⟩, rfl, fun j hj => ?_⟩, fun hge => by rw [List.length_map]; omega⟩
        unfold appF
        by_cases e : j < i
        · rw [decide_eq_true e]; rfl
        · rw [decide_eq_false e]
          obtain rfl : j = i := by omega
          rw [Nat.sub_self, cond_false, List.getD_eq_getElem?_getD (l := List.map Ent.loc S), List.getElem?_map, List.getElem?_eq_getElem hlt]
          show V.str _ = V.str (S[j]).loc
          rw [List.getD_eq_getElem?_getD, List.getElem?_eq_getElem hlt]; rfl
  · cases h
attribute [push_cast] ckNewer

/- rules of sameness -/
structure Sam where
  ki : Int
  nm : List UInt8
deriving DecidableEq
def noSam : Sam := ⟨0, []⟩
def decSam : V → Sam
  | .agg [.int _ k, .str s] => ⟨k, s⟩
  | _ => noSam
def cSam : Cod Sam := ⟨fun r => .agg [.int .i64 r.ki, .str r.nm], decSam, noSam, fun _ => rfl⟩
@[push_cast] theorem enc_sam (r : Sam) : cSam.enc r = .agg [.int .i64 r.ki, .str r.nm] := rfl
@[push_cast] theorem dec_sam (k : IntKind) (a : Int) (p : List UInt8) : cSam.dec (.agg [.int k a, .str p]) = ⟨a, p⟩ := rfl
@[push_cast] theorem lsF_sam (l : List Sam) (i : Nat) : lsF cSam l i = .agg [.int .i64 (l.getD i noSam).ki, .str (l.getD i noSam).nm] := rfl
def hasSam (l : List Sam) (k : Int) (s : List UInt8) : Bool := decide ((⟨k, s⟩ : Sam) ∈ l)

end Go.Abs
