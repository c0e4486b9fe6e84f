/- Publicly: the example of a drawing. -/
import Derived.Test.YtgjahejhpkbecaaGreatDoorPubA
import Derived.Test.YtgjahejhpkbecaaGreatDoorOddsB
namespace Go.Proofs.YtgjahejhpkbecaaGreatDoor
open Go.RowKit

set_option maxRecDepth 100000 in
set_option maxHeartbeats 2000000 in
theorem knownDrawing_t (w : World) (ht : w.cell? ⟨5, 15, none⟩ = some (.int .u8 4)) :
    Calls Tryz.prog 4 #[] w fun e w' => e = .returned (.bool true) ∧ Ext w w' := by
  have c1 := hid (Fair_ex w.heap.size (w.alloc (.cells #[.int .i64 5, .int .i64 2] 3)) (heap_alloc_new w _))
  have c2 := hid (fun (W : World) (hW : Ext w W) => show Calls Tryz.prog 8 #[.int .i64 12, .slice (some ⟨W.heap.size, 0, none⟩) 2 2] (W.alloc (.cells #[.int .i64 7, .int .i64 9] 3)) fun e w' => e = .returned (.int .i64 4) ∧ Ext (W.alloc (.cells #[.int .i64 7, .int .i64 9] 3)) w' from
    publicly_any 12 [7, 9] W.heap.size 2 _ (by decide) (by decide) (by decide) (fun j hj => by
      rw [cellsOf (heap_alloc_new W _)]
      rcases j with _ | _ | j
      · rfl
      · rfl
      · simp at hj; omega) ((hW.alloc _).cell' ht))
  clear ht
  go_enter Tryz.func4, Tryz.ntmps4
  go_wp2_with (first
    | (go_at_call 10; refine c1.out.mono ?_; rintro e w1 ⟨rfl, hE1⟩)
    | (go_at_call 8; refine (c2.out _ (((Ext.refl w).alloc _).trans hE1)).mono ?_; rintro e w2 ⟨rfl, hE2⟩))
  go_ret
  exact ⟨rfl, (((Ext.refl w).alloc _).trans hE1).trans (((Ext.refl w1).alloc _).trans hE2)⟩

end Go.Proofs.YtgjahejhpkbecaaGreatDoor
