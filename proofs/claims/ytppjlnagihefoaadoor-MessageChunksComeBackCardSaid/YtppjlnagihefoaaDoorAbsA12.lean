import Derived.Test.YtppjlnagihefoaaDoorAbsA11
import Derived.Lib.ConvBytes
namespace Go.Abs
open Go
variable {G : PG}
variable {P : Program} {d : Nat} {S : Sv}

theorem mul_lt {i j n sz : Nat} (hi : i < n) (hj : j < sz) : i * sz + j < n * sz := by
  have : (i + 1) * sz ≤ n * sz := Nat.mul_le_mul_right _ (by omega)
  rw [Nat.add_mul, Nat.one_mul] at this
  omega
theorem mul_mod {i j sz : Nat} (hj : j < sz) : (i * sz + j) % sz = j := by
  rw [Nat.add_comm, Nat.add_mul_mod_self_right, Nat.mod_eq_of_lt hj]

theorem ok_make (hs : Sim G S) (t : TypeId) (x y : V) (a b : Value) (ha : S.rep x a) (hb : S.rep y b) : OkO G P d S (VS (Instr.makeSlice t a b)) (vMake P d t x y) := by
  unfold vMake
  split
  · rename_i k n k' c
    obtain rfl := inv_int ha
    obtain rfl := inv_int hb
    split
    · rename_i e ht
      split
      · rename_i z hz
        rintro ⟨rfl, h1, h2, h3, h4, h5, h6⟩
        obtain ⟨i, v, hi, hv, rfl, e1, e2⟩ := ti_zero hz
        obtain ⟨q1, q2, q3⟩ := cells_ok (S := S) (.pure (ofV_rep S.imm S.w v)) h6
        rw [h5] at q1 q2 q3
        have hw : IntKind.wrap .i64 n = n := wrap_i64 (by unfold I64; omega)
        have hbytes : ¬ (281474976710656 < (i.bytes : Int) * n) := by rw [← e2, Int.mul_comm]; omega
        have hneg : ¬ n < 0 := by omega
        let arr : Array Value := (Array.range (n.toNat * (ti P e).size)).map (v.cells[· % v.cells.size]!)
        have hp := Pushed.mk' S.w (.cells arr e)
        have hget : ∀ i j, i < n.toNat → j < (ti P e).size → arr.getD (i * (ti P e).size + j) undef = v.cells.getD j undef := by
          intro i j hi hj
          have hlt := mul_lt hi hj
          have : j < v.cells.size := by omega
          simp [arr, Array.getD, hlt, q1, mul_mod hj, hj]
        obtain ⟨g1, g2, g3⟩ := new_vec (d := d) (n := n.toNat) (cap := n.toNat) (f := fun _ => V.ofV v) hs hp h4 (Nat.le_refl _) (by simp [arr]) (.inl (Nat.le_refl _)) (fun _ _ => h5)
          (fun i j hi hj => by rw [hget i j hi hj]; exact q2 j hj) (fun i j hi hj => by rw [hget i j hi hj]; exact q3 j hj)
        refine ⟨_, _, _, .inl (run_VS (u := .slice (some ⟨S.w.heap.size, 0, none⟩) n.toNat n.toNat) ?_), g1, g2, g3⟩
        have hsz : (sizeOf e).run P S.w = .ok (ti P e).size S.w := by rw [e1]; exact run_size hi _
        by_cases hn0 : n.toNat * (ti P e).size = 0
        · have h00 : Array.range 0 = #[] := rfl
          simp [Instr.makeSlice, run_und (und_slice ht), asInt, asIntOf, run_info hi, hw, hbytes, hneg, hsz, hn0, newRow, arr, h00]
        · simp [Instr.makeSlice, run_und (und_slice ht), asInt, asIntOf, run_info hi, hw, hbytes, hneg, hsz, hn0, newRow, run_zero hi hv, arr]
      · trivial
    · trivial
  · trivial

theorem ok_conv_bytesOf (hs : Sim G S) (s t e : TypeId) (x : List UInt8) (h1 : (ti P s).d = .str) (h2 : (ti P t).d = .slice e) (h3 : (ti P e).d = .int .u8) :
    OkO G P d S (VS (convert s t (.string ⟨x.toArray⟩))) (.new True (.vec d x.length) (.vec 1 x.length (byF x))) := by
  intro _
  have hbs : ByteArray.size ⟨x.toArray⟩ = x.length := size_mk x
  have hq : x.length ≤ grownCap S.w x.length 0 e := grownCap_ge S.w x.length 0 e
  have hrun := Lib.run_convert_string_bytes (P := P) S.w s t e ⟨x.toArray⟩ (und_str h1) (und_slice h2) (und_int h3)
  rw [hbs] at hrun
  have hsz : (Lib.bytesCells S.w e ⟨x.toArray⟩).size = grownCap S.w x.length 0 e * 1 := by simp only [Lib.bytesCells, hbs]; simp; omega
  have hp : Pushed S.w (Lib.bytesWorld S.w e ⟨x.toArray⟩) (.cells (Lib.bytesCells S.w e ⟨x.toArray⟩) e ((Lib.bytesCells S.w e ⟨x.toArray⟩).size, (Lib.bytesCells S.w e ⟨x.toArray⟩).size + 1)) :=
    ⟨rfl, rfl, rfl, Lib.bytesWorld_size _ _ _, fun hb => Lib.bytesWorld_at_old _ _ _ _ hb, Lib.bytesWorld_at_new _ _ _⟩
  have hget : ∀ i, i < x.length → (Lib.bytesCells S.w e ⟨x.toArray⟩).getD i undef = .int .u8 (x.getD i 0).toNat := by
    intro i hi
    have := Lib.bytesWorld_cell S.w e ⟨x.toArray⟩ i (by rw [hbs]; exact hi)
    rw [cell_of_heap hp.new] at this
    rw [Array.getD_eq_getD_getElem?, this]
    rfl
  obtain ⟨g1, g2, g3⟩ := new_vec (d := d) (n := x.length) (cap := grownCap S.w x.length 0 e) (f := byF x) (sz := 1) hs hp (by omega) hq hsz (.inr (Nat.le_refl _)) (fun _ _ => rfl)
    (fun i j hi hj => by
      obtain rfl : j = 0 := by omega
      simp only [Nat.mul_one, Nat.add_zero]
      rw [hget i hi]
      exact .pure (.int _ _))
    (fun i j hi hj => by
      obtain rfl : j = 0 := by omega
      simp only [Nat.mul_one, Nat.add_zero]
      rw [hget i hi]
      rfl)
  exact ⟨_, _, _, .inl (run_VS hrun), g1, g2, g3⟩
end Go.Abs
