/- what functions of this program compute: contracts, each a function's own -/
import Derived.Test.YtejiajdjgnnpdaaGreatDoorAbsK3
import Derived.Test.YtejiajdjgnnpdaaGreatDoorAbsFacts
import Derived.Test.YtejiajdjgnnpdaaGreatDoorAbsF10
import Derived.Test.YtejiajdjgnnpdaaGreatDoorAbsShelf
import Derived.Lib.SplitLaws
import Derived.Lib.SlTrimSet
import Derived.Lib.Atoi
import Derived.Lib.Itoa
import Derived.Lib.ItoaNum
import Derived.Lib.AtoiErrMem
import Derived.Lib.Join
import Derived.Lib.Repeat
import Derived.Lib.IndexMore
import Derived.Lib.AsciiSet
import Derived.Lib.IndexAny
import Derived.Sort.Walk0
import Derived.Lib.ItoaLen
import Derived.Shelf.Spec.SlicesInsert
import Derived.Shelf.Spec.SlicesInsertGrow
import Derived.Lib.Overlaps
import Derived.Lib.AppendZerosOnto
import Derived.Laws.NewBlocks
import Derived.WalkKit
import Derived.Lib.Walk
namespace Go.Abs
open Go Go.Proofs
set_option maxHeartbeats 4000000
set_option maxRecDepth 100000
set_option linter.unusedVariables false
set_option linter.unusedSimpArgs false
theorem bad_mem {ix : Bool} : ∀ {l : List Ent}, badL ix l = 0 → ∀ e ∈ l, entBad ix e = 0
  | [], _, e, he => by cases he
  | x :: t, h, e, he => by
    unfold badL at h
    split at h
    · rename_i h0
      rcases List.mem_cons.1 he with rfl | he
      · exact h0
      · exact bad_mem h e he
    · rename_i h0; exact absurd h h0
theorem new_ok {m : SMp} {s : Int} (h : newE m s = 0) : (newL m s).length ≤ 1000 ∧ ∀ x ∈ newL m s, (readA x).2.2 = 0 := by
  have h0 : chkM m = 0 := by
    unfold newE at h
    refine Classical.byContradiction fun hc => ?_
    rw [if_pos hc] at h
    exact hc h
  have h1 : m.en.length ≤ 1000 ∧ badL m.ix m.en = 0 := by
    unfold chkM at h0
    split at h0
    · cases h0
    · exact ⟨by omega, h0⟩
  have e : newL m s = (srtE (m.en.filter (newB s))).map Ent.loc := by unfold newL; rw [if_pos h]
  rw [e]
  refine ⟨?_, fun x hx => ?_⟩
  · rw [List.length_map]
    have e2 : (srtE (m.en.filter (newB s))).length = (m.en.filter (newB s)).length := srtL_len ltE noEnt _
    have e3 : (m.en.filter (newB s)).length ≤ m.en.length := List.length_filter_le _ _
    omega
  · obtain ⟨y, hy, rfl⟩ := List.mem_map.1 hx
    have h2 : y ∈ m.en.filter (newB s) := (srtL_st keyE noEnt (m.en.filter (newB s))).2.symm.mem keyE hy
    have h3 := bad_mem h1.2 y (List.mem_filter.1 h2).1
    unfold entBad at h3
    refine Classical.byContradiction fun hc => ?_
    rw [if_pos hc] at h3
    cases h3
theorem wK_loc (K : List (List UInt8)) : (K.map wK).map (·.loc) = K := by
  rw [List.map_map]
  exact List.map_id K
def ckLawMF : Ck
  | [.agg [.bool b, .sl n f], .sl k h, x, .str a] => some (isLs cEnt n f ∧ n ≤ 4611686018427387904 ∧ isLs cSam k h ∧ k ≤ 4611686018427387904 ∧ samsOk (lsOf cSam k h) ∧ isC cRob x ∧ robOk (cRob.dec x) ∧ a.length ≤ 140737488355328, .bool true)
  | _ => none
theorem conLawMF : Con pg 3 ckLawMF := by
  have hct := (ctA_ok conNewer (ctA_ok conLives (ctA_ok conReadA (ctA_ok conKeyT (ctA_ok conOfKey (ctA_ok conPermits (ctA_ok conAddF (ctA_ok conCtnS (ctF_ok conSortS (ctA_ok conNextF (ctN_ok _)))))))))))
  intro args q r h hq
  unfold ckLawMF at h
  split at h
  · cases h
    rename_i b n f k h x a
    refine pcall_args (args' := [.agg [.bool b, .sl n f], .sl k h, cRob.enc (cRob.dec x), .str a]) ⟨VLe.refl _, VLe.refl _, hq.2.2.2.2.2.1, VLe.refl _, trivial⟩ ?_
    obtain ⟨h1, hn, h2, hk, hs, -, ok, ha⟩ := hq
    generalize cRob.dec x = r at ok ⊢
    refine w3 (fun _ => false) [] rfl hct rfl rfl ?_
    push_cast (config := { maxSteps := 10000000 })
    have hnew := @new_ok ⟨b, lsOf cEnt n f⟩ 1
    have hne : ¬ newE ⟨b, lsOf cEnt n f⟩ 1 = 0 → newL ⟨b, lsOf cEnt n f⟩ 1 = [] := fun h => by unfold newL; rw [if_neg h]
    generalize newE ⟨b, lsOf cEnt n f⟩ 1 = e at *
    generalize newL ⟨b, lsOf cEnt n f⟩ 1 = N at *
    refine ⟨⟨h1, hn⟩, fun he => by rw [hne he]; rfl, fun he => ?_⟩
    obtain ⟨hN, hR⟩ := hnew he
    have hRat : ∀ i, i < N.length → (readA (N.getD i [])).2.2 = 0 := fun i hi => hR _ (by rw [List.getD_eq_getElem?_getD, List.getElem?_eq_getElem hi]; exact List.getElem_mem hi)
    clear hnew hne hR
    refine LoopW.adj ⟨hct, fol⟩ (by kernel_rfl) [.nv 12 8000 1 (lsF cStr [])] (fun t : Nat × List (List UInt8) × List (List UInt8) => [(1, .sl k h), (3, .str a), (6, .ptr 6 0), (9, .sl N.length (lsF cStr N)), (11, .ptr 11 0), (12, .vec 8000 t.2.2.length), (13, .int .i64 t.1)]) (fun t => [(6, .cells [.sl r.gr.length (lsF cGrp r.gr), .sl r.ma.length (lsF cStr r.ma)]), (11, .cells [.sl t.2.1.length (lsF cEnt (t.2.1.map wK)), .sl 0 (lsF cStr []), .int .i64 1, .int .i64 1]), (8000, .vec 1 t.2.2.length (lsF cStr t.2.2))]) (fun t => t.1 ≤ N.length ∧ FrOk t.2.1 ∧ t.2.1.Perm t.2.2 ∧ t.2.1.length ≤ t.1) (fun t => N.length - t.1) (0, [], []) ?_ fun t ht => ?_
    · push_cast (config := { maxSteps := 10000000 })
      exact ⟨Nat.zero_le _, ⟨Nat.zero_le _, (fun k hk => by cases hk), List.Pairwise.nil⟩, List.Perm.refl _⟩
    · obtain ⟨i, K, Q⟩ := t
      obtain ⟨i1, hK, hP, i2⟩ : i ≤ N.length ∧ FrOk K ∧ K.Perm Q ∧ K.length ≤ i := ht
      push_cast (config := { maxSteps := 10000000 })
      have eK : lsOf cEnt K.length (lsF cEnt (List.map wK K)) = K.map wK := by
        have := (LsI.ls (c := cEnt) (K.map wK)).of
        rwa [List.length_map] at this
      have eQ : (lsOf cStr Q.length fun i => V.str (Q.getD i [])) = Q := (LsI.ls (c := cStr) Q).of
      have iQ : isLs cStr Q.length fun i => V.str (Q.getD i []) := (LsI.ls (c := cStr) Q).is
      have hfr : isFr K.length (lsF cEnt (List.map wK K)) := by
        refine ⟨?_, K, hK, eK⟩
        have := (LsI.ls (c := cEnt) (K.map wK)).is
        rwa [List.length_map] at this
      have hQl := hP.length_eq
      rw [eK, eQ, wK_loc]
      have hRi := hRat i
      have had := readA_ok (N.getD i [])
      generalize readA (N.getD i []) = R at hRi had ⊢
      obtain ⟨ad, R1, R2⟩ := R
      simp only at hRi had ⊢
      have hkk : ¬ keE ad (lsOf cSam k h) = 0 → (if keE ad (lsOf cSam k h) = 0 then keyL (lsOf cSam k h) ad else []) = [] := fun x => if_neg x
      generalize (if keE ad (lsOf cSam k h) = 0 then keyL (lsOf cSam k h) ad else []) = kk at hkk ⊢
      generalize keE ad (lsOf cSam k h) = ek at hkk ⊢
      generalize adE r a ad = ea
      generalize perL r a (pathL ad) = pe
      refine ⟨fun hi => ⟨hi, fun x => x (hRi hi), fun _ => ⟨⟨had, h2, hk, hs⟩, hkk, fun hek hok => ⟨⟨ok, ha, had⟩, fun x y => absurd y x, fun hea => ⟨fun _ => ⟨by omega, (i + 1, K, Q), ⟨hi, hK, hP, by show K.length ≤ i + 1; omega⟩, by show N.length - (i + 1) < _; omega, ⟨rfl, rfl⟩, ⟨rfl, fun _ _ => rfl⟩, rfl, fun _ _ => rfl⟩, fun hpe => ⟨⟨hfr, hok, by omega⟩, ⟨iQ, by omega⟩, fun hc => ⟨by omega, by omega, (i + 1, putW K kk, Q ++ [kk]), ⟨hi, putW_ok hK hok (by omega), ?_, ?_⟩, by show N.length - (i + 1) < _; omega, ⟨by simp, rfl⟩, ⟨rfl, fun _ _ => rfl⟩, by simp, fun j hj => app_one hj⟩, fun hc => ⟨by omega, (i + 1, putW K kk, Q), ⟨hi, putW_ok hK hok (by omega), ?_, ?_⟩, by show N.length - (i + 1) < _; omega, ⟨rfl, rfl⟩, ⟨rfl, fun _ _ => rfl⟩, rfl, fun _ _ => rfl⟩⟩⟩⟩⟩⟩, fun hi => ⟨by omega, fun x => x hQl, fun _ => ?_⟩⟩
      · have := putW_perm (k := kk) hP
        rw [if_neg (fun x => by rw [List.contains_iff_mem.2 x] at hc; cases hc)] at this
        exact this
      · have := (putW_perm (k := kk) hP).length_eq
        rw [if_neg (fun x => by rw [List.contains_iff_mem.2 x] at hc; cases hc)] at this
        show (putW K kk).length ≤ i + 1
        rw [this, List.length_append, List.length_singleton]; omega
      · have := putW_perm (k := kk) hP
        rw [if_pos (List.contains_iff_mem.1 hc)] at this
        exact this
      · have := (putW_perm (k := kk) hP).length_eq
        rw [if_pos (List.contains_iff_mem.1 hc)] at this
        show (putW K kk).length ≤ i + 1
        omega
      have hS : srtS Q = K := srtW_uniq hK.srt hP
      refine LoopW.adj ⟨hct, fol⟩ (by kernel_rfl) [] (fun j : Nat => [(11, .ptr 11 0), (12, .vec 8000 K.length), (21, .int .i64 j)]) (fun _ => [(11, .cells [.sl K.length (lsF cEnt (K.map wK)), .sl 0 (lsF cStr []), .int .i64 1, .int .i64 1]), (8000, .vec 1 K.length (lsF cStr K))]) (fun j => j ≤ K.length) (fun j => K.length - j) 0 ?_ fun j hj => ?_
      · push_cast (config := { maxSteps := 10000000 })
        exact ⟨Nat.zero_le _, hQl.symm, hQl.symm, fun i _ => by rw [hS]⟩
      · have hj : j ≤ K.length := hj
        push_cast (config := { maxSteps := 10000000 })
        have h0 : decide (0 < K.length) = decide (0 < (K.length : Int)) := by
          rw [Bool.eq_iff_iff, decide_eq_true_eq, decide_eq_true_eq]; omega
        refine ⟨fun h => ⟨h, h, h, fun x => x (by rw [wK_at K h]; rfl), fun _ => ⟨by omega, j + 1, h, by omega, by omega⟩⟩, fun h => ⟨hfr, fun _ => ⟨h0, fun x => ⟨h0, x⟩⟩, h0⟩⟩
  · cases h
attribute [push_cast] ckLawMF
theorem shSam {m : Nat} {v : V} (h : Sh.has (.tup [.int .i64, .str]) m v) : ∃ a, v = cSam.enc a ∧ a.nm.length ≤ 140737488355328 := by
  obtain ⟨l, ms, rfl, -, hl⟩ := h
  obtain ⟨m1, v1, ms, l, rfl, h1, hl⟩ := hasL_cons hl
  obtain ⟨m2, v2, ms, l, rfl, h2, hl⟩ := hasL_cons hl
  obtain rfl := hasL_nil hl
  obtain ⟨k, rfl, _⟩ := shInt h1
  obtain ⟨s, rfl, b1⟩ := shStr h2
  exact ⟨⟨k, s⟩, rfl, b1⟩
theorem hasD4F {H : Type} {s1 s2 s3 s4 : Sh} {ds : List (DataW H)} (h : hasD [s1, s2, s3, s4] ds) : ∃ a b c d, ds = [a, b, c, d] ∧ s1.has (bulkD a) (toV a) ∧ s2.has (bulkD b) (toV b) ∧ s3.has (bulkD c) (toV c) ∧ s4.has (bulkD d) (toV d) := by
  match ds, h with
  | [_, _, _, _], h => exact ⟨_, _, _, _, rfl, h.1, h.2.1, h.2.2.1, h.2.2.2.1⟩
theorem allLawMF {H : Type} (ds : List (DataW H)) (hh : hasD [sSMp, .list (.tup [.int .i64, .str]), sRob, .str] ds) : PCall pg 3 (ds.map toV) (.bool true) := by
  obtain ⟨d1, d2, d3, d4, rfl, x, y, z, u⟩ := hasD4F hh
  obtain ⟨b, n, f, e1, i1, b1, -⟩ := shSMp x
  obtain ⟨k, h, e2, i2, b2, k2⟩ := shList (c := cSam) (fun m v h => shSam h) y
  obtain ⟨i3, k3⟩ := shRob z
  obtain ⟨s, e4, b4⟩ := shStr u
  simp only [List.map_cons, List.map_nil, e1, e2, e4]
  exact conLawMF _ _ _ rfl ⟨i1, by omega, i2, by omega, k2, i3, k3, b4⟩

end Go.Abs
