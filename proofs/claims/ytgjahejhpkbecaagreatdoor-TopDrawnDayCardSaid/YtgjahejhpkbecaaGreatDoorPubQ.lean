/- The plain almanac. -/
import Derived.Test.YtgjahejhpkbecaaGreatDoorAlmL
namespace Go.Proofs.YtgjahejhpkbecaaGreatDoor
open Go.RowKit

def quietA : Alm := ⟨[⟨7, 0⟩], ⟨4, 100, 400⟩, ⟨59, 2, 0, 235, 19, 0, 4⟩⟩
set_option maxRecDepth 100000 in
set_option maxHeartbeats 2000000 in
theorem quiet_any (cb : Nat) (w : World) :
    Calls Tryz.prog 5 #[.slice (some ⟨cb, 0, none⟩) 1 1] w fun e w' => e = .returned (quietA.val (some ⟨cb, 0, none⟩) 1) ∧ Ext w w' := by
  go_enter Tryz.func5, Tryz.ntmps5
  go_wp2
  have hb := heap_alloc_new w (.cells (quietA.cells (some ⟨cb, 0, none⟩) 1) 32)
  have hl := Loads.agg (P := Tryz.prog) (T := 32) Tryz.underlying32 rfl (cs := quietA.cells (some ⟨cb, 0, none⟩) 1) (by kernel_rfl) _ w.heap.size 0 (fun j v hj => by
    rw [Nat.zero_add, cellsOf hb]; simpa [Value.cells] using hj)
  have hl2 := hl
  simp [Instr.loadAt, Instr.sureAddr] at hl2
  refine bodyPost_ret (v := quietA.val (some ⟨cb, 0, none⟩) 1) ?_ rfl ⟨rfl, (Ext.refl w).alloc _⟩
  simp [results, Tryz.func5, asAddr, Sem.run_bind]
  exact hl2
end Go.Proofs.YtgjahejhpkbecaaGreatDoor
