/- Almanacs, continued: which tests of a day are valid. -/
import Derived.Test.YtgjahejhpkbecaaGreatDoorAlmB
namespace Go.Proofs.YtgjahejhpkbecaaGreatDoor
open Go.RowKit

/-- a test of a day -/
structure DT where
  kind : Int
  which : Int
  set : Int
  frm : Int
  to : Int
def DT.enc (t : DT) : Value := .agg #[.int .i64 t.kind, .int .i64 t.which, .int .u64 t.set, .int .i64 t.frm, .int .i64 t.to]

theorem upto12 (w : World) : Calls Tryz.prog 87 #[.int .i64 12] w fun e w' => e = .returned (.int .u64 8190) ∧ w = w' := by
  go_enter Tryz.func87, Tryz.ntmps87
  go_wp2
  go_ret
  exact ⟨rfl, rfl⟩
theorem upto31 (w : World) : Calls Tryz.prog 87 #[.int .i64 31] w fun e w' => e = .returned (.int .u64 4294967294) ∧ w = w' := by
  go_enter Tryz.func87, Tryz.ntmps87
  go_wp2
  go_ret
  exact ⟨rfl, rfl⟩

/-- no bit of a set lies outside of another one -/
def subsetB (set most : Int) : Bool := bits .andNot .u64 set most == 0
def DT.ok (A : Alm) (t : DT) : Bool :=
  if t.kind = 1 then
    match A.cycles[t.which.toNat]? with
    | some c => withinB t.which 0 (A.cycles.length - 1) && (t.frm == 0 && (t.to == 0 && subsetB t.set (18446744073709551615 / 2 ^ (64 - c.len).toNat)))
    | none => false
  else if t.kind = 2 ∨ t.kind = 4 then t.which == 0 && (t.frm == 0 && (t.to == 0 && subsetB t.set 8190))
  else if t.kind = 3 ∨ t.kind = 5 then t.which == 0 && (t.frm == 0 && (t.to == 0 && subsetB t.set 4294967294))
  else if t.kind = 6 then t.which == 0 && (t.frm == 0 && (t.to == 0 && subsetB t.set 0))
  else if t.kind = 7 then withinB t.frm 0 1000000 && (withinB t.to 0 1000000 && (t.which == 0 && subsetB t.set 0))
  else false

theorem lt_of_cell {w : World} {p : Addr} {v : Value} (h : w.cell? p = some v) : p.block < w.heap.size := by
  rcases Nat.lt_or_ge p.block w.heap.size with h' | h'
  · exact h'
  · simp [World.cell?, Array.getElem?_eq_none h'] at h

set_option maxHeartbeats 1000000 in
theorem isTest_any (A : Alm) (a : Option Addr) (cp : Nat) (t : DT) (w : World) (h : AlmAt w A a) (hc : okCycles A.cycles = true) :
    Calls Tryz.prog 70 #[A.val a cp, t.enc] w fun e w' => e = .returned (.bool (t.ok A)) ∧ Ext w w' := by
  obtain ⟨cs, ⟨s1, s2, s3⟩, ⟨l1, l2, l3, l4, l5, l6, l7⟩⟩ := A
  obtain ⟨kind, which, set, frm, to⟩ := t
  unfold Alm.val DT.enc
  have hl := h.1
  dsimp only at hl hc
  have hd : kind = 1 ∨ kind = 2 ∨ kind = 3 ∨ kind = 4 ∨ kind = 5 ∨ kind = 6 ∨ kind = 7 ∨ (kind ≠ 1 ∧ kind ≠ 2 ∧ kind ≠ 3 ∧ kind ≠ 4 ∧ kind ≠ 5 ∧ kind ≠ 6 ∧ kind ≠ 7) := by omega
  rcases hd with rfl | rfl | rfl | rfl | rfl | rfl | rfl | ⟨k1, k2, k3, k4, k5, k6, k7⟩
  · by_cases ht : 0 ≤ which ∧ which ≤ (cs.length : Int) - 1
    · obtain ⟨k, rfl⟩ : ∃ k : Nat, which = k := ⟨which.toNat, by omega⟩
      have hlt : k < cs.length := by omega
      obtain ⟨⟨cl, cst⟩, hw⟩ : ∃ c, cs[k]? = some c := ⟨_, List.getElem?_eq_getElem hlt⟩
      have hb : 1 ≤ cl ∧ cl ≤ 64 := by
        have := List.all_eq_true.1 hc _ (List.mem_of_getElem? hw)
        simp only [Cyc.ok, Bool.and_eq_true, withinB_true] at this
        exact this.1
      obtain ⟨b, off, rfl⟩ := h.2.addr (i := k) (by simpa using hlt)
      have hcell := h.2.cell (i := k) (cs := #[.int .i64 cl, .int .i64 cst]) (by rw [List.getElem?_map, hw]; rfl) 0 (.int .i64 cl) rfl
      have hbs : b < w.heap.size := lt_of_cell hcell
      simp only [Nat.add_zero] at hcell
      have ht : withinB k 0 (cs.length - 1) = true := withinB_t (by omega)
      have hf : ∀ x, DT.ok ⟨cs, ⟨s1, s2, s3⟩, ⟨l1, l2, l3, l4, l5, l6, l7⟩⟩ ⟨1, k, set, frm, to⟩ = x ↔ (frm == 0 && (to == 0 && subsetB set (18446744073709551615 / 2 ^ (64 - cl).toNat))) = x := fun x => by
        simp [DT.ok, hw, ht]
      have HF := hid hf
      clear h hc hw hf
      go_enter Tryz.func70, Tryz.ntmps70
      go_wp2_with (first | (go_at_call 30; refine (within_any _ _ _ _).mono ?_; rintro e w' ⟨rfl, rfl⟩))
      all_goals
        go_ret
        exact ⟨ret_bool (((HF.out _).2 (by simp [subsetB, *])).symm), by (repeat (first | (with_reducible assumption) | (with_reducible exact Ext.refl _) | (with_reducible refine Ext.alloc ?_ _) | (with_reducible refine Ext.drew ?_)))⟩
    · have ht : withinB which 0 (cs.length - 1) = false := withinB_f ht
      have hf : DT.ok ⟨cs, ⟨s1, s2, s3⟩, ⟨l1, l2, l3, l4, l5, l6, l7⟩⟩ ⟨1, which, set, frm, to⟩ = false := by
        simp only [DT.ok, if_true, ht]
        split <;> rfl
      have HF := hid hf
      clear h hc hf
      go_enter Tryz.func70, Tryz.ntmps70
      go_wp2_with (first | (go_at_call 30; refine (within_any _ _ _ _).mono ?_; rintro e w' ⟨rfl, rfl⟩))
      all_goals
        go_ret
        exact ⟨ret_bool HF.out.symm, by (repeat (first | (with_reducible assumption) | (with_reducible exact Ext.refl _) | (with_reducible refine Ext.alloc ?_ _) | (with_reducible refine Ext.drew ?_)))⟩
  all_goals
    clear h hc
    go_enter Tryz.func70, Tryz.ntmps70
    go_wp2_with (first | (go_at_call 30; refine (within_any _ _ _ _).mono ?_; rintro e w' ⟨rfl, rfl⟩) | (go_at_call 21; refine (isDay_any _ _).mono ?_; rintro e w' ⟨rfl, rfl⟩) | (go_at_call 87; first | ((with_reducible refine (upto12 _).mono ?_); rintro e w' ⟨rfl, rfl⟩) | ((with_reducible refine (upto31 _).mono ?_); rintro e w' ⟨rfl, rfl⟩)))
    all_goals
      go_ret
      exact ⟨ret_bool (by simp [DT.ok, subsetB, *] <;> simp_all), by (repeat (first | (with_reducible assumption) | (with_reducible exact Ext.refl _) | (with_reducible refine Ext.alloc ?_ _) | (with_reducible refine Ext.drew ?_)))⟩
end Go.Proofs.YtgjahejhpkbecaaGreatDoor
