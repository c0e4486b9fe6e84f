/- Odds: fair values; only what the example needs. -/
import Derived.Test.YtgjahejhpkbecaaGreatDoorBlk
import Derived.Test.YtgjahejhpkbecaaGreatDoorFuncs
namespace Go.Proofs.YtgjahejhpkbecaaGreatDoor
open Go.RowKit

set_option maxRecDepth 20000 in
set_option maxHeartbeats 1000000 in
theorem settle_no (tb : Nat) (s v s' v' : Nat) (w : World) (hb : w.heap[tb]? = some (.cells #[.int .i64 s, .int .i64 v] 83 (0, 0))) (hs : s ≤ 1000) (hv : v ≤ 1000) (hs2 : s' ≤ s) (hv2 : v' ≤ 1000) (h1 : (s : Int).tmod 4 = s') (h2 : (s : Int) - s' ≤ v) (h3 : (v : Int) - (s - s') = v') :
    Calls Tryz.prog 27 #[.pointer (some ⟨tb, 0, none⟩), .int .i64 4] w fun e w' => e = .returned (.tuple #[.int .i64 0, .bool false]) ∧
      w'.heap[tb]? = some (.cells #[.int .i64 s', .int .i64 v'] 83 (0, 0)) ∧ Keep (· = tb) w w' := by
  have q : ∀ (p : Rg w) (o : Nat), p.w'.cell? ⟨tb, o, none⟩ = #[Value.int .i64 s, .int .i64 v][o]? := fun p => cellsOf (p.h.blk' hb)
  have HB := hid hb
  have h4 : (s : Int) - (s - s') = s' := by omega
  have h5 : ¬ (v : Int) < s - s' := by omega
  clear hb
  go_enter Tryz.func27, Tryz.ntmps27
  go_wp2
  refine wp_region_rg (by kernel_rfl) (by kernel_rfl) ?_
  repeat (go_big_quiet_step (fail))
  refine wpQuiet_nil ?_
  intro p
  obtain ⟨W2, hW2⟩ : ∃ W2, W2 = p.w' := ⟨_, rfl⟩
  have hE2 : Ext w W2 := by rw [hW2]; exact p.h
  rw [← hW2]
  clear hW2 q
  have HB2 := hid (hE2.blk' HB.out)
  have hk := cellsOf HB2.out
  have hf := frozenOf HB2.out
  go_wp2
  go_region
  all_goals go_wp2
  all_goals refine bodyPost_ret (results_tmp2 rfl _ _ _) rfl ?_
  all_goals exact ⟨rfl, set_blk (set_blk HB2.out 0 _) 1 _, Keep.drew (keep_set (l := tb) (keep_set (l := tb) (Keep.of_ext hE2) 0 _) 1 _)⟩

set_option maxRecDepth 20000 in
set_option maxHeartbeats 1000000 in
theorem settle_yes (tb : Nat) (s v r : Nat) (w : World) (hb : w.heap[tb]? = some (.cells #[.int .i64 s, .int .i64 v] 83 (0, 0))) (hs : s ≤ 1000) (h1 : (s : Int).tmod 4 = 0) (h2 : v < s) (h3 : (v : Int).tmod 4 = r) :
    Calls Tryz.prog 27 #[.pointer (some ⟨tb, 0, none⟩), .int .i64 4] w fun e w' => e = .returned (.tuple #[.int .i64 r, .bool true]) ∧ Ext w w' := by
  have q : ∀ (p : Rg w) (o : Nat), p.w'.cell? ⟨tb, o, none⟩ = #[Value.int .i64 s, .int .i64 v][o]? := fun p => cellsOf (p.h.blk' hb)
  have HB := hid hb
  have h5 : (v : Int) < s := by omega
  clear hb
  go_enter Tryz.func27, Tryz.ntmps27
  go_wp2
  refine wp_region_rg (by kernel_rfl) (by kernel_rfl) ?_
  repeat (go_big_quiet_step (fail))
  refine wpQuiet_nil ?_
  intro p
  obtain ⟨W2, hW2⟩ : ∃ W2, W2 = p.w' := ⟨_, rfl⟩
  have hE2 : Ext w W2 := by rw [hW2]; exact p.h
  rw [← hW2]
  clear hW2 q
  have hk := cellsOf (hE2.blk' HB.out)
  go_wp2
  refine bodyPost_ret (results_tmp2 rfl _ _ _) rfl ?_
  exact ⟨rfl, hE2⟩
end Go.Proofs.YtgjahejhpkbecaaGreatDoor
