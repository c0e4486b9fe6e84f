/- Witness: nobody deviates. -/
import Derived.Test.YtgjahejhpkbecaaGreatDoorWitL
import Derived.Test.YtgjahejhpkbecaaGreatDoorRangeN
namespace Go.Proofs.YtgjahejhpkbecaaGreatDoor
open Go.RowKit

def Per.val (p : Per) : Value := .agg #[.string p.hash, .int .i64 p.value, .int .i64 p.sealed, .int .i64 p.opn, .bool p.right]
theorem DrawAt.load {w : World} {base db pb below : Nat} {ps : List Per} {s o n : Nat} (h : DrawAt w base db pb below ps s o n) {i : Nat} {p : Per} (hi : ps[i]? = some p) :
    (Instr.loadAt 106 (.pointer (some ⟨pb, i * 5, none⟩))).run Tryz.prog w = .ok p.val w := by
  refine Loads.agg Tryz.underlying106 rfl (by kernel_rfl) w pb (i * 5) fun j v hj => ?_
  obtain ⟨e0, e1, e2, e3, e4, _⟩ := h.pb hi
  simp only [Value.cells] at hj
  rcases j with _ | _ | _ | _ | _ | j
  · exact e0.trans hj
  · exact e1.trans hj
  · exact e2.trans hj
  · exact e3.trans hj
  · exact e4.trans hj
  · simp at hj

set_option maxRecDepth 20000 in
set_option maxHeartbeats 1000000 in
theorem deviants_none (base db pb below : Nat) (ps : List Per) (s o n : Nat) (y : Value) (w : World) (hD : DrawAt w base db pb below ps s o n) (hlen : ps.length ≤ 30) (hall : ∀ p ∈ ps, 0 < p.opn ∧ p.right = true) :
    Calls Tryz.prog 46 #[.pointer (some ⟨db, 0, none⟩), y] w fun e w' => (∃ v, e = .returned v) ∧ Ext w w' := by
  obtain ⟨s1, s2, s3, s4, s5, s6⟩ := hD.db
  have H := hid hD
  have HA := hid hall
  clear hD hall
  go_enter Tryz.func46, Tryz.ntmps46
  go_wp2
  go_loopw [12] (fun i wr => ∃ k : Nat, k ≤ ps.length ∧ i = .int .i64 k ∧ Ext w wr) (fun i _ => ps.length - (intOf i).toNat)
  case atStart => exact ⟨0, Nat.zero_le _, rfl, Ext.refl _⟩
  case round =>
    obtain ⟨k, hk, rfl, hE⟩ := hrel
    by_cases hlt : k < ps.length
    · obtain ⟨p, hpk⟩ : ∃ p, ps[k]? = some p := ⟨_, List.getElem?_eq_getElem hlt⟩
      obtain ⟨ho, hr⟩ := HA.out p (List.mem_of_getElem? hpk)
      have hl := hid ((H.out.later hE).load hpk)
      obtain ⟨ph, pv, psl, pop, pr⟩ := p
      unfold Per.val at hl
      simp only at ho hr
      subst hr
      clear hpk
      go_wp2_with (refine wpList_load_val rfl 106 (.tmp 15) rfl _ rfl _ hl.out ?_)
      trace_state
      go_roundw
      case rel => exact ⟨k + 1, by omega, by go_num, by (repeat (first | (with_reducible assumption) | (with_reducible exact Ext.refl _) | (with_reducible refine Ext.alloc ?_ _) | (with_reducible refine Ext.drew ?_)))⟩
      case measure => simp [intOf]; omega
    · obtain rfl : k = ps.length := by omega
      go_wp2
      go_end0
      exact ⟨⟨_, rfl⟩, hE⟩
end Go.Proofs.YtgjahejhpkbecaaGreatDoor
