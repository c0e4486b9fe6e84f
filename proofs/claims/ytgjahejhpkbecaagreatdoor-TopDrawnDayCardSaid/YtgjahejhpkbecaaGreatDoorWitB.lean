/- Witness: a number in hexadecimal digits. -/
import Derived.Test.YtgjahejhpkbecaaGreatDoorWitA
namespace Go.Proofs.YtgjahejhpkbecaaGreatDoor
open Go.RowKit

theorem trail16 (w : World) (ht : w.cell? ⟨5, 15, none⟩ = some (.int .u8 4)) : Calls Tryz.prog 138 #[.int .u64 16] w fun e w' => e = .returned (.int .i64 4) ∧ w = w' := by
  go_enter Tryz.func138, Tryz.ntmps138
  have hidx : IntKind.u64.wrap (bits BinOp.and IntKind.u64 16 (IntKind.u64.wrap (-16)) * 285870213051353865) / 288230376151711744 = 15 := by decide
  go_wp2
  go_ret
  exact ⟨rfl, rfl⟩
theorem trail16' (w : World) (ht : w.cell? ⟨5, 15, none⟩ = some (.int .u8 4)) : Calls Tryz.prog 132 #[.int .u64 16] w fun e w' => e = .returned (.int .i64 4) ∧ w = w' := by
  go_enter Tryz.func132, Tryz.ntmps132
  go_wp2_with (go_at_call 138; refine (trail16 _ ht).mono ?_; rintro e w' ⟨rfl, rfl⟩)
  go_ret
  exact ⟨rfl, rfl⟩
theorem pow16 (w : World) : Calls Tryz.prog 131 #[.int .i64 16] w fun e w' => e = .returned (.bool true) ∧ w = w' := by
  have h : bits BinOp.and IntKind.i64 16 15 = 0 := by decide
  go_enter Tryz.func131, Tryz.ntmps131
  go_wp2
  go_ret
  exact ⟨rfl, rfl⟩

/-- hexadecimal digits -/
def dig (n : Nat) : UInt8 := (if n < 10 then 48 + n else 87 + n).toUInt8
def hexL (n : Nat) : List UInt8 := if n < 16 then [dig n] else hexL (n / 16) ++ [dig (n % 16)]
  termination_by n
  decreasing_by omega

theorem hexL_lt {n : Nat} (h : n < 16) : hexL n = [dig n] := by rw [hexL, if_pos h]
theorem hexL_ge {n : Nat} (h : 16 ≤ n) : hexL n = hexL (n / 16) ++ [dig (n % 16)] := by rw [hexL, if_neg (by omega)]
theorem dig_at (i : Nat) (h : i < 16) (h2 : i < (⟨#[48, 49, 50, 51, 52, 53, 54, 55, 56, 57, 97, 98, 99, 100, 101, 102, 103, 104, 105, 106, 107, 108, 109, 110, 111, 112, 113, 114, 115, 116, 117, 118, 119, 120, 121, 122]⟩ : ByteArray).size) :
    (⟨#[48, 49, 50, 51, 52, 53, 54, 55, 56, 57, 97, 98, 99, 100, 101, 102, 103, 104, 105, 106, 107, 108, 109, 110, 111, 112, 113, 114, 115, 116, 117, 118, 119, 120, 121, 122]⟩ : ByteArray)[i] = dig i := by
  have : ∀ i : Fin 16, (#[48, 49, 50, 51, 52, 53, 54, 55, 56, 57, 97, 98, 99, 100, 101, 102, 103, 104, 105, 106, 107, 108, 109, 110, 111, 112, 113, 114, 115, 116, 117, 118, 119, 120, 121, 122] : Array UInt8)[i.1]? = some (dig i.1) := by decide
  have h1 := this ⟨i, h⟩
  exact (Array.getElem?_eq_some_iff.1 h1).2
theorem pow_len {v n u : Nat} (hv : v * 16 ^ n ≤ u) (h : 16 ≤ v) (hu : u < 18446744073709551616) : n < 15 := by
  have h1 : 16 ^ (n + 1) ≤ v * 16 ^ n := by rw [Nat.pow_succ, Nat.mul_comm]; exact Nat.mul_le_mul_right _ h
  have h2 : 16 ^ (n + 1) < 16 ^ 16 := Nat.lt_of_le_of_lt (Nat.le_trans h1 hv) (by simpa using hu)
  have := (Nat.pow_lt_pow_iff_right (by omega : 1 < 16)).1 h2
  omega

set_option maxRecDepth 20000 in
set_option maxHeartbeats 1000000 in
theorem formatBits16 (u : Nat) (hu : u < 18446744073709551616) (w : World) (ht : w.cell? ⟨5, 15, none⟩ = some (.int .u8 4))  :
    Calls Tryz.prog 117 #[.slice none 0 0, .int .u64 u, .int .i64 16, .bool false, .bool false] w fun e w' => e = .returned (.tuple #[.slice none 0 0, .string ⟨(hexL u).toArray⟩]) ∧ Ext w w' := by
  go_enter Tryz.func117, Tryz.ntmps117
  go_wp2_with (first | (go_at_call 131; refine (pow16 _).mono ?_; rintro e w' ⟨rfl, rfl⟩) | (go_at_call 132; refine (trail16' _ (Ext.cell' ((Ext.refl w).alloc _) ht)).mono ?_; rintro e w' ⟨rfl, rfl⟩))
  go_loopw [1, 13] (fun x i wr => ∃ (m v : Nat) (ds : List UInt8) (cs : Array Value), x = .int .u64 v ∧ i = .int .i64 m ∧ m + ds.length = 65 ∧ ds.length ≤ 15 ∧ v * 16 ^ ds.length ≤ u ∧ Hid (hexL u = hexL v ++ ds) ∧
      Hid (∀ (j : Nat) (b : UInt8), ds[j]? = some b → cs[m + j]? = some (.int .u8 (b.toNat : Int))) ∧ cs.size = 65 ∧ Hid (wr.heap[w.heap.size]? = some (.cells cs 211 (0, 0))) ∧ Ext w wr) (fun x _ _ => (intOf x).toNat)
  case atStart =>
    refine ⟨65, u, [], Tryz.zeroCells211, rfl, rfl, rfl, by simp, by simp, hid (by simp), hid (fun j b h => by simp at h), by rfl, hid (heap_alloc_new w _), (Ext.refl w).alloc _⟩
  case round =>
    obtain ⟨m, v, ds, cs, rfl, rfl, hm, hd, hv, hx, hc, hcs, hb, hE⟩ := hrel
    by_cases hlt : v < 16
    · obtain ⟨m, rfl⟩ : ∃ m', m = m' + 1 := ⟨m - 1, by omega⟩
      have hck := cellsOf hb.out
      have hcf := frozenOf hb.out
      have hcm : cs[m]? = some cs[m] := Array.getElem?_eq_getElem (by omega)
      have hsl : ∀ W, (Instr.sliceAt 211 (.pointer (some ⟨w.heap.size, 0, none⟩)) (some (.int .i64 (m : Int))) none none).run Tryz.prog W = .ok (.slice (some ⟨w.heap.size, m, none⟩) (ds.length + 1) (ds.length + 1)) W := fun W => by
        have h1 : (m : Int) ≤ Tryz.prog.arrayLen 211 := by show (m : Int) ≤ 65; omega
        have h2 := run_sliceAt_array_l W 211 ⟨w.heap.size, 0, none⟩ Tryz.underlying211 .i64 (m : Int) (by omega) h1
        have h3 : (sizeOf (Tryz.prog.elem 211)).run Tryz.prog W = .ok 1 W := by show (sizeOf 5).run _ W = _; rfl
        have h4 : Tryz.prog.arrayLen 211 = 65 := rfl
        rw [h2, h3, h4]
        simp [slicedAt, Result.andThen, show ¬ 65 = m by omega, show 65 - m = ds.length + 1 by omega, Addr.add, show ¬ m = 0 by omega]
      have hv36 : v < (⟨#[48, 49, 50, 51, 52, 53, 54, 55, 56, 57, 97, 98, 99, 100, 101, 102, 103, 104, 105, 106, 107, 108, 109, 110, 111, 112, 113, 114, 115, 116, 117, 118, 119, 120, 121, 122]⟩ : ByteArray).size := by simp [ByteArray.size]; omega
      have e := dig_at v hlt hv36
      have hcv : (convert 159 9 (.slice (some ⟨w.heap.size, m, none⟩) (ds.length + 1) (ds.length + 1))).run Tryz.prog (wr.setCell ⟨w.heap.size, m, none⟩ (.int .u8 (((⟨#[48, 49, 50, 51, 52, 53, 54, 55, 56, 57, 97, 98, 99, 100, 101, 102, 103, 104, 105, 106, 107, 108, 109, 110, 111, 112, 113, 114, 115, 116, 117, 118, 119, 120, 121, 122]⟩ : ByteArray)[v]'hv36).toNat : Int))) =
          .ok (.string ⟨(dig v :: ds).toArray⟩) (wr.setCell ⟨w.heap.size, m, none⟩ (.int .u8 (((⟨#[48, 49, 50, 51, 52, 53, 54, 55, 56, 57, 97, 98, 99, 100, 101, 102, 103, 104, 105, 106, 107, 108, 109, 110, 111, 112, 113, 114, 115, 116, 117, 118, 119, 120, 121, 122]⟩ : ByteArray)[v]'hv36).toNat : Int))) := by
        rw [e]
        refine run_convert_bytes_back _ _ _ 5 ⟨w.heap.size, m, none⟩ _ (dig v :: ds) Tryz.underlying159 Tryz.underlying5 Tryz.underlying9 fun j hj => ?_
        have ea : (⟨w.heap.size, m, none⟩ : Addr).add j = ⟨w.heap.size, m + j, none⟩ := by cases j <;> simp [Addr.add]
        rw [ea]
        refine (cellsOf (set_blk hb.out m _) (m + j)).trans ?_
        cases j with
        | zero => rw [Nat.add_zero, Array.getElem?_setIfInBounds_self_of_lt (by omega)]; rfl
        | succ j =>
          have hj' : j < ds.length := by simpa using hj
          have := hc.out j ds[j] (List.getElem?_eq_getElem hj')
          rw [Array.getElem?_setIfInBounds_ne (by omega), show m + (j + 1) = m + 1 + j by omega, this]
          rfl
      clear e
      have ex := hid (show hexL u = dig v :: ds by rw [hx.out, hexL_lt hlt]; rfl)
      go_wp2
      refine bodyPost_ret (results_tmp2 rfl _ _ _) rfl ?_
      exact ⟨by rw [ex.out]; rfl, hE.setCell (p := ⟨w.heap.size, m, none⟩) (Nat.le_refl _) _⟩
    · have hv16 : 16 ≤ v := by omega
      have hlt2 := pow_len hv hv16 hu
      obtain ⟨m, rfl⟩ : ∃ m', m = m' + 1 := ⟨m - 1, by omega⟩
      have hck := cellsOf hb.out
      have hcf := frozenOf hb.out
      have hvu : v < 18446744073709551616 := Nat.lt_of_le_of_lt (Nat.le_trans (Nat.le_mul_of_pos_right v (Nat.pow_pos (by omega))) hv) hu
      have hand : bits BinOp.and IntKind.u64 (v : Int) 15 = ((v % 16 : Nat) : Int) := by
        have := bits_and_u64_nat v 15 hvu (by omega)
        rw [Nat.and_two_pow_sub_one_eq_mod v 4] at this
        exact this
      have hcm : cs[m]? = some cs[m] := Array.getElem?_eq_getElem (by omega)
      have Hv := hid hv
      clear hv
      go_wp2
      refine ⟨⟨m, v / 16, dig (v % 16) :: ds, cs.setIfInBounds m (.int .u8 ((dig (v % 16)).toNat : Int)), by simp, rfl, by simp; omega, by simp; omega, ?_, ?_, ?_, by simpa using hcs, ?_, hE.setCell (p := ⟨w.heap.size, m, none⟩) (Nat.le_refl _) _⟩, ?_⟩
      · refine Nat.le_trans ?_ Hv.out
        rw [List.length_cons, Nat.pow_succ, ← Nat.mul_assoc, Nat.mul_comm, ← Nat.mul_assoc]
        exact Nat.mul_le_mul_right _ (Nat.mul_div_le v 16)
      · refine hid ?_
        rw [hx.out, hexL_ge hv16]; simp
      · refine hid fun j b hj => ?_
        cases j with
        | zero =>
          obtain rfl : dig (v % 16) = b := by simpa using hj
          rw [Nat.add_zero, Array.getElem?_setIfInBounds_self_of_lt (by omega)]
        | succ j =>
          have := hc.out j b (by simpa using hj)
          rw [Array.getElem?_setIfInBounds_ne (by omega), show m + (j + 1) = m + 1 + j by omega]
          exact this
      · have e := dig_at (v % 16) (by omega) (by simp [ByteArray.size]; omega)
        exact hid (by rw [e]; exact set_blk hb.out m _)
      · simp only [intOf]
        omega

end Go.Proofs.YtgjahejhpkbecaaGreatDoor
