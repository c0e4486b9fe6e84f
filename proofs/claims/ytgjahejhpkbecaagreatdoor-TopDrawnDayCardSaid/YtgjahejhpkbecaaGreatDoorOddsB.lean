/- Odds: the example of fair values. -/
import Derived.Test.YtgjahejhpkbecaaGreatDoorOddsA
import Derived.Test.YtgjahejhpkbecaaGreatDoorEarly
import Derived.Deep.RegionHeld3
namespace Go.Proofs.YtgjahejhpkbecaaGreatDoor
open Go.RowKit

set_option maxRecDepth 20000 in
theorem fair1_f (x : Int) (sb : Nat) (w : World) (hx : 0 ≤ x ∧ x < 6) (hs : w.heap[sb]? = some (.cells #[.int .i64 6] 3 (0, 0))) :
    Calls Tryz.prog 26 #[.int .i64 x, .pointer (some ⟨sb, 0, none⟩)] w fun e w' => e = .returned (.bool false) ∧ Ext w w' := by
  have hk := cellsOf hs
  obtain ⟨h1, h2⟩ := hx
  clear hs
  go_enter Tryz.func26, Tryz.ntmps26
  go_wp2
  go_ret
  exact ⟨by simp; omega, Ext.refl _⟩
def fairV (k : Nat) : Nat := match k with | 0 => 0 | 1 => 5 | _ => 8
def fairS (k : Nat) : Nat := match k with | 0 => 1 | 1 => 6 | _ => 12
structure fairR (sb b : Nat) (W : World) : Prop where
  h1 : W.heap[sb]? = some (.cells #[.int .i64 6] 3 (0, 0))
  h2 : W.heap[b]? = some (.cells #[.int .i64 5, .int .i64 2] 3 (0, 0))
theorem fairR.c1 {sb b : Nat} {W : World} (h : fairR sb b W) : W.cell? ⟨sb, 0, none⟩ = some (.int .i64 6) := cellsOf h.h1 0
theorem fairR.c2 {sb b : Nat} {W : World} (h : fairR sb b W) : ∀ o, W.cell? ⟨b, o, none⟩ = #[Value.int .i64 5, .int .i64 2][o]? := cellsOf h.h2
set_option maxRecDepth 100000 in
set_option maxHeartbeats 2000000 in
theorem Fair_ex (b : Nat) (w : World) (hb : w.heap[b]? = some (.cells #[.int .i64 5, .int .i64 2] 3 (0, 0))) :
    Calls Tryz.prog 10 #[.int .i64 6, .int .i64 4, .slice (some ⟨b, 0, none⟩) 2 2] w fun e w' => e = .returned (.tuple #[.int .i64 0, .int .i64 2, .int .i64 0]) ∧ Ext w w' := by
  have hc := hid (fun (W : World) (h1 : W.heap[w.heap.size]? = some (.cells #[.int .i64 6] 3 (0, 0))) (h2 : Ext w W) =>
    containsInt 26 #[.pointer (some ⟨w.heap.size, 0, none⟩)] (fun _ => false) [.int .i64 5, .int .i64 2] (some ⟨b, 0, none⟩) 2 W (by simp) (enters Tryz.func26 (by kernel_rfl) rfl)
      (fun i x hx => ⟨b, 0, rfl, fun j v hj => by
          have := cellsOf (h2.blk' hb) (0 + i * 1 + j)
          rcases i with _ | _ | i <;> simp at hx <;> subst hx <;> simp [Value.cells] at hj <;> (rcases j with _ | j <;> simp_all), Loads.one Tryz.underlying3 rfl (by rcases i with _ | _ | i <;> simp at hx <;> subst hx <;> rfl)⟩)
      (fun i x hx _ W' hW' => by
        rcases i with _ | _ | i <;> simp at hx <;> subst hx
        · exact fair1_f 5 _ W' (by omega) (hW'.blk' h1)
        · exact fair1_f 2 _ W' (by omega) (hW'.blk' h1)))
  have hany : anyN (fun _ => false) 2 = false := rfl
  simp only [List.length_cons, List.length_nil, Nat.zero_add, Nat.reduceAdd, hany] at hc
  clear hany
  have hB := hid (heap_alloc_new w (.cells #[.int .i64 6] 3))
  have HB := hid hb
  have hm : ∀ (fn : Fn) (first cap : Array Value) (w : World), (Instr.makeFunc fn first cap).run Tryz.prog w = .ok (.func fn first cap) w := fun _ _ _ _ => rfl
  clear hb
  go_enter Tryz.func10, Tryz.ntmps10
  go_wp2_with (go_at_call 25; refine (hc.out _ hB.out ((Ext.refl w).alloc _)).mono ?_; rintro e w1 ⟨rfl, hE⟩)
  have hbt : (w1.alloc (.cells #[.int .i64 1, .int .i64 0] 83)).heap[w1.heap.size]? = some (.cells #[.int .i64 1, .int .i64 0] 83 (0, 0)) := heap_alloc_new w1 _
  have hsz := hE.size
  have hsb : w.heap.size < w1.heap.size := lt_of_block (hE.blk' hB.out)
  have hbb : b < w.heap.size := lt_of_block HB.out
  have HB1 := hid (Ext.blk' ((Ext.refl w1).alloc (.cells #[.int .i64 1, .int .i64 0] 83)) (hE.blk' hB.out))
  have HB2 := hid (Ext.blk' ((Ext.refl w1).alloc (.cells #[.int .i64 1, .int .i64 0] 83)) (hE.blk' (Ext.blk' ((Ext.refl w).alloc _) HB.out)))
  go_loopw [7] (fun i wr => ∃ k : Nat, k ≤ 2 ∧ i = .int .i64 k ∧ (k = 0 → wr.heap[w1.heap.size]? = some (.cells #[.int .i64 (1 : Nat), .int .i64 (0 : Nat)] 83 (0, 0))) ∧ (k = 1 → wr.heap[w1.heap.size]? = some (.cells #[.int .i64 (6 : Nat), .int .i64 (5 : Nat)] 83 (0, 0))) ∧
      (k = 2 → wr.heap[w1.heap.size]? = some (.cells #[.int .i64 (12 : Nat), .int .i64 (8 : Nat)] 83 (0, 0))) ∧ Keep (· = w1.heap.size) (w1.alloc (.cells #[.int .i64 1, .int .i64 0] 83)) wr) (fun i _ => 2 - (intOf i).toNat)
  case atStart => exact ⟨0, by omega, rfl, fun _ => hbt, by omega, by omega, Keep.refl _ _⟩
  case round =>
    obtain ⟨k, hk2, rfl, m0, m1, m2, hK⟩ := hrel
    obtain rfl | rfl | rfl : k = 0 ∨ k = 1 ∨ k = 2 := by omega
    · have ht := m0 rfl
      clear m0 m1 m2 hbt
      go_wp2_with (go_at_call 27; refine (settle_no w1.heap.size 1 0 1 0 wr ht (by omega) (by omega) (by omega) (by omega) (by decide) (by decide) (by decide)).mono ?_; rintro e w2 ⟨rfl, ht2, hK2⟩; have hk2 := cellsOf ht2; have hf2 := frozenOf ht2; have x1 := cellsOf (hK2.blk (hK.blk HB1.out (by omega)) (by omega)) 0; have x2 := cellsOf (hK2.blk (hK.blk HB2.out (by omega)) (by omega)) 0; have HK2 := hid (hK.trans hK2); have HT2 := hid ht2; clear hK2 ht2)
      have hS0 : fairR w.heap.size b w2.drew := ⟨(HK2.out.drew).blk HB1.out (by omega), (HK2.out.drew).blk HB2.out (by omega)⟩
      have hKd := hid HK2.out.drew
      have hTd : w2.drew.heap[w1.heap.size]? = _ := HT2.out
      have hk3 := cellsOf hTd
      have hf3 := frozenOf hTd
      have hTd := hid hTd
      refine wp_region_noPanic (region_E [21, 24] (fairR w.heap.size b) (by kernel_rfl) ?_)
      refine anyE_takeS (i := 0) (by simp only [List.getElem?_toArray, List.getElem?_cons_succ, List.getElem?_cons_zero]; rfl) (by kernel_rfl) (by kernel_rfl) (by kernel_rfl) (fun _ _ _ _ h => False.elim h) (by rfl) hS0 (by intro w hSw; have x1 := hSw.c1; have x2 := hSw.c2; clear hSw; go_simp; try with_reducible rfl) ?_
      simp only [Act.put, List.setIfInBounds_toArray, List.set_cons_zero, List.set_cons_succ]
      refine anyE_takeS (i := 1) (by simp only [List.getElem?_toArray, List.getElem?_cons_succ, List.getElem?_cons_zero]; rfl) (by kernel_rfl) (by kernel_rfl) (by kernel_rfl) (fun _ _ _ _ h => False.elim h) (by rfl) hS0 (by intro w hSw; have x1 := hSw.c1; have x2 := hSw.c2; clear hSw; go_simp; try with_reducible rfl) ?_
      simp only [Act.put, List.setIfInBounds_toArray, List.set_cons_zero, List.set_cons_succ]
      refine anyE_takeS (i := 2) (by simp only [List.getElem?_toArray, List.getElem?_cons_succ, List.getElem?_cons_zero]; rfl) (by kernel_rfl) (by kernel_rfl) (by kernel_rfl) (fun _ _ _ _ h => False.elim h) (by rfl) hS0 (by intro w hSw; have x1 := hSw.c1; have x2 := hSw.c2; clear hSw; go_simp; try with_reducible rfl) ?_
      simp only [Act.put, List.setIfInBounds_toArray, List.set_cons_zero, List.set_cons_succ]
      refine anyE_takeS (i := 3) (by simp only [List.getElem?_toArray, List.getElem?_cons_succ, List.getElem?_cons_zero]; rfl) (by kernel_rfl) (by kernel_rfl) (by kernel_rfl) (fun _ _ _ _ h => False.elim h) (by rfl) hS0 (by intro w hSw; have x1 := hSw.c1; have x2 := hSw.c2; clear hSw; go_simp; try with_reducible rfl) ?_
      simp only [Act.put, List.setIfInBounds_toArray, List.set_cons_zero, List.set_cons_succ]
      refine anyE_takeS (i := 4) (by simp only [List.getElem?_toArray, List.getElem?_cons_succ, List.getElem?_cons_zero]; rfl) (by kernel_rfl) (by kernel_rfl) (by kernel_rfl) (fun _ _ _ _ h => False.elim h) (by rfl) hS0 (by intro w hSw; have x1 := hSw.c1; have x2 := hSw.c2; clear hSw; go_simp; try with_reducible rfl) ?_
      simp only [Act.put, List.setIfInBounds_toArray, List.set_cons_zero, List.set_cons_succ]
      refine anyE_take (i := 5) (by simp only [List.getElem?_toArray, List.getElem?_cons_succ, List.getElem?_cons_zero]; rfl) (by kernel_rfl) (by kernel_rfl) (by kernel_rfl) (fun _ _ _ _ h => False.elim h) (by rfl) hS0 (by go_simp; try with_reducible rfl) ?_
      simp only [Act.put, List.setIfInBounds_toArray, List.set_cons_zero, List.set_cons_succ]
      refine anyE_takeS (i := 6) (by simp only [List.getElem?_toArray, List.getElem?_cons_succ, List.getElem?_cons_zero]; rfl) (by kernel_rfl) (by kernel_rfl) (by kernel_rfl) (fun _ _ _ _ h => False.elim h) (by rfl) hS0 (by intro w hSw; have x1 := hSw.c1; have x2 := hSw.c2; clear hSw; go_simp; try with_reducible rfl) ?_
      simp only [Act.put, List.setIfInBounds_toArray, List.set_cons_zero, List.set_cons_succ]
      refine anyE_takeS (i := 7) (by simp only [List.getElem?_toArray, List.getElem?_cons_succ, List.getElem?_cons_zero]; rfl) (by kernel_rfl) (by kernel_rfl) (by kernel_rfl) (fun _ _ _ _ h => False.elim h) (by rfl) hS0 (by intro w hSw; have x1 := hSw.c1; have x2 := hSw.c2; clear hSw; go_simp; try with_reducible rfl) ?_
      simp only [Act.put, List.setIfInBounds_toArray, List.set_cons_zero, List.set_cons_succ]
      refine anyE_takeS (i := 8) (by simp only [List.getElem?_toArray, List.getElem?_cons_succ, List.getElem?_cons_zero]; rfl) (by kernel_rfl) (by kernel_rfl) (by kernel_rfl) (fun _ _ _ _ h => False.elim h) (by rfl) hS0 (by intro w hSw; have x1 := hSw.c1; have x2 := hSw.c2; clear hSw; go_simp; try with_reducible rfl) ?_
      simp only [Act.put, List.setIfInBounds_toArray, List.set_cons_zero, List.set_cons_succ]
      refine anyE_takeS (i := 9) (by simp only [List.getElem?_toArray, List.getElem?_cons_succ, List.getElem?_cons_zero]; rfl) (by kernel_rfl) (by kernel_rfl) (by kernel_rfl) (fun _ _ _ _ h => False.elim h) (by rfl) hS0 (by intro w hSw; have x1 := hSw.c1; have x2 := hSw.c2; clear hSw; go_simp; try with_reducible rfl) ?_
      simp only [Act.put, List.setIfInBounds_toArray, List.set_cons_zero, List.set_cons_succ]
      refine anyE_takeS (i := 10) (by simp only [List.getElem?_toArray, List.getElem?_cons_succ, List.getElem?_cons_zero]; rfl) (by kernel_rfl) (by kernel_rfl) (by kernel_rfl) (fun _ _ _ _ h => False.elim h) (by rfl) hS0 (by intro w hSw; have x1 := hSw.c1; have x2 := hSw.c2; clear hSw; go_simp; try with_reducible rfl) ?_
      simp only [Act.put, List.setIfInBounds_toArray, List.set_cons_zero, List.set_cons_succ]
      refine anyE_take (i := 11) (by simp only [List.getElem?_toArray, List.getElem?_cons_succ, List.getElem?_cons_zero]; rfl) (by kernel_rfl) (by kernel_rfl) (by kernel_rfl) (fun _ _ _ _ h => False.elim h) (by rfl) hS0 (by go_simp; try with_reducible rfl) ?_
      simp only [Act.put, List.setIfInBounds_toArray, List.set_cons_zero, List.set_cons_succ]
      refine anyE_takeS (i := 12) (by simp only [List.getElem?_toArray, List.getElem?_cons_succ, List.getElem?_cons_zero]; rfl) (by kernel_rfl) (by kernel_rfl) (by kernel_rfl) (fun _ _ _ _ h => False.elim h) (by rfl) hS0 (by intro w hSw; have x1 := hSw.c1; have x2 := hSw.c2; clear hSw; go_simp; try with_reducible rfl) ?_
      simp only [Act.put, List.setIfInBounds_toArray, List.set_cons_zero, List.set_cons_succ]
      refine anyE_takeS (i := 13) (by simp only [List.getElem?_toArray, List.getElem?_cons_succ, List.getElem?_cons_zero]; rfl) (by kernel_rfl) (by kernel_rfl) (by kernel_rfl) (fun _ _ _ _ h => False.elim h) (by rfl) hS0 (by intro w hSw; have x1 := hSw.c1; have x2 := hSw.c2; clear hSw; go_simp; try with_reducible rfl) ?_
      simp only [Act.put, List.setIfInBounds_toArray, List.set_cons_zero, List.set_cons_succ]
      refine anyE_takeS (i := 14) (by simp only [List.getElem?_toArray, List.getElem?_cons_succ, List.getElem?_cons_zero]; rfl) (by kernel_rfl) (by kernel_rfl) (by kernel_rfl) (fun _ _ _ _ h => False.elim h) (by rfl) hS0 (by intro w hSw; have x1 := hSw.c1; have x2 := hSw.c2; clear hSw; go_simp; try with_reducible rfl) ?_
      simp only [Act.put, List.setIfInBounds_toArray, List.set_cons_zero, List.set_cons_succ]
      refine anyE_takeS (i := 15) (by simp only [List.getElem?_toArray, List.getElem?_cons_succ, List.getElem?_cons_zero]; rfl) (by kernel_rfl) (by kernel_rfl) (by kernel_rfl) (fun _ _ _ _ h => False.elim h) (by rfl) hS0 (by intro w hSw; have x1 := hSw.c1; have x2 := hSw.c2; clear hSw; go_simp; try with_reducible rfl) ?_
      simp only [Act.put, List.setIfInBounds_toArray, List.set_cons_zero, List.set_cons_succ]
      refine anyE_takeS (i := 16) (by simp only [List.getElem?_toArray, List.getElem?_cons_succ, List.getElem?_cons_zero]; rfl) (by kernel_rfl) (by kernel_rfl) (by kernel_rfl) (fun _ _ _ _ h => False.elim h) (by rfl) hS0 (by intro w hSw; have x1 := hSw.c1; have x2 := hSw.c2; clear hSw; go_simp; try with_reducible rfl) ?_
      simp only [Act.put, List.setIfInBounds_toArray, List.set_cons_zero, List.set_cons_succ]
      refine anyE_takeS (i := 17) (by simp only [List.getElem?_toArray, List.getElem?_cons_succ, List.getElem?_cons_zero]; rfl) (by kernel_rfl) (by kernel_rfl) (by kernel_rfl) (fun _ _ _ _ h => False.elim h) (by rfl) hS0 (by intro w hSw; have x1 := hSw.c1; have x2 := hSw.c2; clear hSw; go_simp; try with_reducible rfl) ?_
      simp only [Act.put, List.setIfInBounds_toArray, List.set_cons_zero, List.set_cons_succ]
      refine anyE_takeS (i := 18) (by simp only [List.getElem?_toArray, List.getElem?_cons_succ, List.getElem?_cons_zero]; rfl) (by kernel_rfl) (by kernel_rfl) (by kernel_rfl) (fun _ _ _ _ h => False.elim h) (by rfl) hS0 (by intro w hSw; have x1 := hSw.c1; have x2 := hSw.c2; clear hSw; go_simp; try with_reducible rfl) ?_
      simp only [Act.put, List.setIfInBounds_toArray, List.set_cons_zero, List.set_cons_succ]
      refine anyE_takeS (i := 19) (by simp only [List.getElem?_toArray, List.getElem?_cons_succ, List.getElem?_cons_zero]; rfl) (by kernel_rfl) (by kernel_rfl) (by kernel_rfl) (fun _ _ _ _ h => False.elim h) (by rfl) hS0 (by intro w hSw; have x1 := hSw.c1; have x2 := hSw.c2; clear hSw; go_simp; try with_reducible rfl) ?_
      simp only [Act.put, List.setIfInBounds_toArray, List.set_cons_zero, List.set_cons_succ]
      refine anyE_takeS (i := 20) (by simp only [List.getElem?_toArray, List.getElem?_cons_succ, List.getElem?_cons_zero]; rfl) (by kernel_rfl) (by kernel_rfl) (by kernel_rfl) (fun _ _ _ _ h => False.elim h) (by rfl) hS0 (by intro w hSw; have x1 := hSw.c1; have x2 := hSw.c2; clear hSw; go_simp; try with_reducible rfl) ?_
      simp only [Act.put, List.setIfInBounds_toArray, List.set_cons_zero, List.set_cons_succ]
      have hK1 := hid (fun v => keep_set (l := w1.heap.size) hKd.out 0 v)
      have hT1 := hid (fun v => set_blk hTd.out 0 v)
      refine anyE_only (i := 21) (by simp only [List.getElem?_toArray, List.getElem?_cons_succ, List.getElem?_cons_zero]; rfl) (by kernel_rfl) (fun K hK => ?_)
      go_simp
      refine hK _ _ (fun h => absurd h (by decide)) ⟨(hK1.out _).blk HB1.out (by omega), (hK1.out _).blk HB2.out (by omega)⟩ ?_
      clear hK K
      have hS1 : fairR w.heap.size b (w2.drew.setCell ⟨w1.heap.size, 0, none⟩ (.int .i64 6)) := ⟨(hK1.out _).blk HB1.out (by omega), (hK1.out _).blk HB2.out (by omega)⟩
      refine anyE_takeS (i := 22) (by simp only [List.getElem?_toArray, List.getElem?_cons_succ, List.getElem?_cons_zero]; rfl) (by kernel_rfl) (by kernel_rfl) (by kernel_rfl) (fun _ _ _ _ h => False.elim h) (by rfl) hS1 (by intro w hSw; have x1 := hSw.c1; have x2 := hSw.c2; clear hSw; go_simp; try with_reducible rfl) ?_
      simp only [Act.put, List.setIfInBounds_toArray, List.set_cons_zero, List.set_cons_succ]
      refine anyE_takeS (i := 23) (by simp only [List.getElem?_toArray, List.getElem?_cons_succ, List.getElem?_cons_zero]; rfl) (by kernel_rfl) (by kernel_rfl) (by kernel_rfl) (fun _ _ _ _ h => False.elim h) (by rfl) hS1 (by intro w hSw; have x1 := hSw.c1; have x2 := hSw.c2; clear hSw; go_simp; try with_reducible rfl) ?_
      simp only [Act.put, List.setIfInBounds_toArray, List.set_cons_zero, List.set_cons_succ]
      have hf4 := frozenOf (hT1.out (.int .i64 6))
      have hk4 := cellsOf (hT1.out (.int .i64 6))
      refine anyE_only (i := 24) (by simp only [List.getElem?_toArray, List.getElem?_cons_succ, List.getElem?_cons_zero]; rfl) (by kernel_rfl) (fun K hK => ?_)
      go_simp
      have hK2 := keep_set (l := w1.heap.size) (hK1.out (.int .i64 6)) 1 (.int .i64 5)
      have hT2 := set_blk (hT1.out (.int .i64 6)) 1 (.int .i64 5)
      refine hK _ _ (fun h => absurd h (by decide)) ⟨hK2.blk HB1.out (by omega), hK2.blk HB2.out (by omega)⟩ ?_
      clear hK K
      refine anyE_done (by kernel_rfl) ?_ _
      refine NoPanic.normal ?_
      have hT3 := hid hT2
      have hK3 := hid hK2
      clear hT2 hK2 hf4 hk4 hk3 hf3 hS1 hk2 hf2
      go_wp2
      go_roundw
      · exact ⟨1, by omega, rfl, fun h => absurd h (by decide), fun _ => set_blk (set_blk HT2.out 0 _) 1 _, fun h => absurd h (by decide), Keep.drew (keep_set (l := w1.heap.size) (keep_set (l := w1.heap.size) HK2.out 0 _) 1 _)⟩
      · decide
    · have ht := m1 rfl
      clear m0 m1 m2 hbt
      go_wp2_with (go_at_call 27; refine (settle_no w1.heap.size 6 5 2 1 wr ht (by omega) (by omega) (by omega) (by omega) (by decide) (by decide) (by decide)).mono ?_; rintro e w2 ⟨rfl, ht2, hK2⟩; have hk2 := cellsOf ht2; have hf2 := frozenOf ht2; have x1 := cellsOf (hK2.blk (hK.blk HB1.out (by omega)) (by omega)) 0; have x2 := cellsOf (hK2.blk (hK.blk HB2.out (by omega)) (by omega)) 1; have HK2 := hid (hK.trans hK2); have HT2 := hid ht2; clear hK2 ht2)
      have hS0 : fairR w.heap.size b w2.drew := ⟨(HK2.out.drew).blk HB1.out (by omega), (HK2.out.drew).blk HB2.out (by omega)⟩
      have hKd := hid HK2.out.drew
      have hTd : w2.drew.heap[w1.heap.size]? = _ := HT2.out
      have hk3 := cellsOf hTd
      have hf3 := frozenOf hTd
      have hTd := hid hTd
      refine wp_region_noPanic (region_E [21, 24] (fairR w.heap.size b) (by kernel_rfl) ?_)
      refine anyE_takeS (i := 0) (by simp only [List.getElem?_toArray, List.getElem?_cons_succ, List.getElem?_cons_zero]; rfl) (by kernel_rfl) (by kernel_rfl) (by kernel_rfl) (fun _ _ _ _ h => False.elim h) (by rfl) hS0 (by intro w hSw; have x1 := hSw.c1; have x2 := hSw.c2; clear hSw; go_simp; try with_reducible rfl) ?_
      simp only [Act.put, List.setIfInBounds_toArray, List.set_cons_zero, List.set_cons_succ]
      refine anyE_takeS (i := 1) (by simp only [List.getElem?_toArray, List.getElem?_cons_succ, List.getElem?_cons_zero]; rfl) (by kernel_rfl) (by kernel_rfl) (by kernel_rfl) (fun _ _ _ _ h => False.elim h) (by rfl) hS0 (by intro w hSw; have x1 := hSw.c1; have x2 := hSw.c2; clear hSw; go_simp; try with_reducible rfl) ?_
      simp only [Act.put, List.setIfInBounds_toArray, List.set_cons_zero, List.set_cons_succ]
      refine anyE_takeS (i := 2) (by simp only [List.getElem?_toArray, List.getElem?_cons_succ, List.getElem?_cons_zero]; rfl) (by kernel_rfl) (by kernel_rfl) (by kernel_rfl) (fun _ _ _ _ h => False.elim h) (by rfl) hS0 (by intro w hSw; have x1 := hSw.c1; have x2 := hSw.c2; clear hSw; go_simp; try with_reducible rfl) ?_
      simp only [Act.put, List.setIfInBounds_toArray, List.set_cons_zero, List.set_cons_succ]
      refine anyE_takeS (i := 3) (by simp only [List.getElem?_toArray, List.getElem?_cons_succ, List.getElem?_cons_zero]; rfl) (by kernel_rfl) (by kernel_rfl) (by kernel_rfl) (fun _ _ _ _ h => False.elim h) (by rfl) hS0 (by intro w hSw; have x1 := hSw.c1; have x2 := hSw.c2; clear hSw; go_simp; try with_reducible rfl) ?_
      simp only [Act.put, List.setIfInBounds_toArray, List.set_cons_zero, List.set_cons_succ]
      refine anyE_takeS (i := 4) (by simp only [List.getElem?_toArray, List.getElem?_cons_succ, List.getElem?_cons_zero]; rfl) (by kernel_rfl) (by kernel_rfl) (by kernel_rfl) (fun _ _ _ _ h => False.elim h) (by rfl) hS0 (by intro w hSw; have x1 := hSw.c1; have x2 := hSw.c2; clear hSw; go_simp; try with_reducible rfl) ?_
      simp only [Act.put, List.setIfInBounds_toArray, List.set_cons_zero, List.set_cons_succ]
      refine anyE_take (i := 5) (by simp only [List.getElem?_toArray, List.getElem?_cons_succ, List.getElem?_cons_zero]; rfl) (by kernel_rfl) (by kernel_rfl) (by kernel_rfl) (fun _ _ _ _ h => False.elim h) (by rfl) hS0 (by go_simp; try with_reducible rfl) ?_
      simp only [Act.put, List.setIfInBounds_toArray, List.set_cons_zero, List.set_cons_succ]
      refine anyE_takeS (i := 6) (by simp only [List.getElem?_toArray, List.getElem?_cons_succ, List.getElem?_cons_zero]; rfl) (by kernel_rfl) (by kernel_rfl) (by kernel_rfl) (fun _ _ _ _ h => False.elim h) (by rfl) hS0 (by intro w hSw; have x1 := hSw.c1; have x2 := hSw.c2; clear hSw; go_simp; try with_reducible rfl) ?_
      simp only [Act.put, List.setIfInBounds_toArray, List.set_cons_zero, List.set_cons_succ]
      refine anyE_takeS (i := 7) (by simp only [List.getElem?_toArray, List.getElem?_cons_succ, List.getElem?_cons_zero]; rfl) (by kernel_rfl) (by kernel_rfl) (by kernel_rfl) (fun _ _ _ _ h => False.elim h) (by rfl) hS0 (by intro w hSw; have x1 := hSw.c1; have x2 := hSw.c2; clear hSw; go_simp; try with_reducible rfl) ?_
      simp only [Act.put, List.setIfInBounds_toArray, List.set_cons_zero, List.set_cons_succ]
      refine anyE_takeS (i := 8) (by simp only [List.getElem?_toArray, List.getElem?_cons_succ, List.getElem?_cons_zero]; rfl) (by kernel_rfl) (by kernel_rfl) (by kernel_rfl) (fun _ _ _ _ h => False.elim h) (by rfl) hS0 (by intro w hSw; have x1 := hSw.c1; have x2 := hSw.c2; clear hSw; go_simp; try with_reducible rfl) ?_
      simp only [Act.put, List.setIfInBounds_toArray, List.set_cons_zero, List.set_cons_succ]
      refine anyE_takeS (i := 9) (by simp only [List.getElem?_toArray, List.getElem?_cons_succ, List.getElem?_cons_zero]; rfl) (by kernel_rfl) (by kernel_rfl) (by kernel_rfl) (fun _ _ _ _ h => False.elim h) (by rfl) hS0 (by intro w hSw; have x1 := hSw.c1; have x2 := hSw.c2; clear hSw; go_simp; try with_reducible rfl) ?_
      simp only [Act.put, List.setIfInBounds_toArray, List.set_cons_zero, List.set_cons_succ]
      refine anyE_takeS (i := 10) (by simp only [List.getElem?_toArray, List.getElem?_cons_succ, List.getElem?_cons_zero]; rfl) (by kernel_rfl) (by kernel_rfl) (by kernel_rfl) (fun _ _ _ _ h => False.elim h) (by rfl) hS0 (by intro w hSw; have x1 := hSw.c1; have x2 := hSw.c2; clear hSw; go_simp; try with_reducible rfl) ?_
      simp only [Act.put, List.setIfInBounds_toArray, List.set_cons_zero, List.set_cons_succ]
      refine anyE_take (i := 11) (by simp only [List.getElem?_toArray, List.getElem?_cons_succ, List.getElem?_cons_zero]; rfl) (by kernel_rfl) (by kernel_rfl) (by kernel_rfl) (fun _ _ _ _ h => False.elim h) (by rfl) hS0 (by go_simp; try with_reducible rfl) ?_
      simp only [Act.put, List.setIfInBounds_toArray, List.set_cons_zero, List.set_cons_succ]
      refine anyE_takeS (i := 12) (by simp only [List.getElem?_toArray, List.getElem?_cons_succ, List.getElem?_cons_zero]; rfl) (by kernel_rfl) (by kernel_rfl) (by kernel_rfl) (fun _ _ _ _ h => False.elim h) (by rfl) hS0 (by intro w hSw; have x1 := hSw.c1; have x2 := hSw.c2; clear hSw; go_simp; try with_reducible rfl) ?_
      simp only [Act.put, List.setIfInBounds_toArray, List.set_cons_zero, List.set_cons_succ]
      refine anyE_takeS (i := 13) (by simp only [List.getElem?_toArray, List.getElem?_cons_succ, List.getElem?_cons_zero]; rfl) (by kernel_rfl) (by kernel_rfl) (by kernel_rfl) (fun _ _ _ _ h => False.elim h) (by rfl) hS0 (by intro w hSw; have x1 := hSw.c1; have x2 := hSw.c2; clear hSw; go_simp; try with_reducible rfl) ?_
      simp only [Act.put, List.setIfInBounds_toArray, List.set_cons_zero, List.set_cons_succ]
      refine anyE_takeS (i := 14) (by simp only [List.getElem?_toArray, List.getElem?_cons_succ, List.getElem?_cons_zero]; rfl) (by kernel_rfl) (by kernel_rfl) (by kernel_rfl) (fun _ _ _ _ h => False.elim h) (by rfl) hS0 (by intro w hSw; have x1 := hSw.c1; have x2 := hSw.c2; clear hSw; go_simp; try with_reducible rfl) ?_
      simp only [Act.put, List.setIfInBounds_toArray, List.set_cons_zero, List.set_cons_succ]
      refine anyE_takeS (i := 15) (by simp only [List.getElem?_toArray, List.getElem?_cons_succ, List.getElem?_cons_zero]; rfl) (by kernel_rfl) (by kernel_rfl) (by kernel_rfl) (fun _ _ _ _ h => False.elim h) (by rfl) hS0 (by intro w hSw; have x1 := hSw.c1; have x2 := hSw.c2; clear hSw; go_simp; try with_reducible rfl) ?_
      simp only [Act.put, List.setIfInBounds_toArray, List.set_cons_zero, List.set_cons_succ]
      refine anyE_takeS (i := 16) (by simp only [List.getElem?_toArray, List.getElem?_cons_succ, List.getElem?_cons_zero]; rfl) (by kernel_rfl) (by kernel_rfl) (by kernel_rfl) (fun _ _ _ _ h => False.elim h) (by rfl) hS0 (by intro w hSw; have x1 := hSw.c1; have x2 := hSw.c2; clear hSw; go_simp; try with_reducible rfl) ?_
      simp only [Act.put, List.setIfInBounds_toArray, List.set_cons_zero, List.set_cons_succ]
      refine anyE_takeS (i := 17) (by simp only [List.getElem?_toArray, List.getElem?_cons_succ, List.getElem?_cons_zero]; rfl) (by kernel_rfl) (by kernel_rfl) (by kernel_rfl) (fun _ _ _ _ h => False.elim h) (by rfl) hS0 (by intro w hSw; have x1 := hSw.c1; have x2 := hSw.c2; clear hSw; go_simp; try with_reducible rfl) ?_
      simp only [Act.put, List.setIfInBounds_toArray, List.set_cons_zero, List.set_cons_succ]
      refine anyE_takeS (i := 18) (by simp only [List.getElem?_toArray, List.getElem?_cons_succ, List.getElem?_cons_zero]; rfl) (by kernel_rfl) (by kernel_rfl) (by kernel_rfl) (fun _ _ _ _ h => False.elim h) (by rfl) hS0 (by intro w hSw; have x1 := hSw.c1; have x2 := hSw.c2; clear hSw; go_simp; try with_reducible rfl) ?_
      simp only [Act.put, List.setIfInBounds_toArray, List.set_cons_zero, List.set_cons_succ]
      refine anyE_takeS (i := 19) (by simp only [List.getElem?_toArray, List.getElem?_cons_succ, List.getElem?_cons_zero]; rfl) (by kernel_rfl) (by kernel_rfl) (by kernel_rfl) (fun _ _ _ _ h => False.elim h) (by rfl) hS0 (by intro w hSw; have x1 := hSw.c1; have x2 := hSw.c2; clear hSw; go_simp; try with_reducible rfl) ?_
      simp only [Act.put, List.setIfInBounds_toArray, List.set_cons_zero, List.set_cons_succ]
      refine anyE_takeS (i := 20) (by simp only [List.getElem?_toArray, List.getElem?_cons_succ, List.getElem?_cons_zero]; rfl) (by kernel_rfl) (by kernel_rfl) (by kernel_rfl) (fun _ _ _ _ h => False.elim h) (by rfl) hS0 (by intro w hSw; have x1 := hSw.c1; have x2 := hSw.c2; clear hSw; go_simp; try with_reducible rfl) ?_
      simp only [Act.put, List.setIfInBounds_toArray, List.set_cons_zero, List.set_cons_succ]
      have hK1 := hid (fun v => keep_set (l := w1.heap.size) hKd.out 0 v)
      have hT1 := hid (fun v => set_blk hTd.out 0 v)
      refine anyE_only (i := 21) (by simp only [List.getElem?_toArray, List.getElem?_cons_succ, List.getElem?_cons_zero]; rfl) (by kernel_rfl) (fun K hK => ?_)
      go_simp
      refine hK _ _ (fun h => absurd h (by decide)) ⟨(hK1.out _).blk HB1.out (by omega), (hK1.out _).blk HB2.out (by omega)⟩ ?_
      clear hK K
      have hS1 : fairR w.heap.size b (w2.drew.setCell ⟨w1.heap.size, 0, none⟩ (.int .i64 12)) := ⟨(hK1.out _).blk HB1.out (by omega), (hK1.out _).blk HB2.out (by omega)⟩
      refine anyE_takeS (i := 22) (by simp only [List.getElem?_toArray, List.getElem?_cons_succ, List.getElem?_cons_zero]; rfl) (by kernel_rfl) (by kernel_rfl) (by kernel_rfl) (fun _ _ _ _ h => False.elim h) (by rfl) hS1 (by intro w hSw; have x1 := hSw.c1; have x2 := hSw.c2; clear hSw; go_simp; try with_reducible rfl) ?_
      simp only [Act.put, List.setIfInBounds_toArray, List.set_cons_zero, List.set_cons_succ]
      refine anyE_takeS (i := 23) (by simp only [List.getElem?_toArray, List.getElem?_cons_succ, List.getElem?_cons_zero]; rfl) (by kernel_rfl) (by kernel_rfl) (by kernel_rfl) (fun _ _ _ _ h => False.elim h) (by rfl) hS1 (by intro w hSw; have x1 := hSw.c1; have x2 := hSw.c2; clear hSw; go_simp; try with_reducible rfl) ?_
      simp only [Act.put, List.setIfInBounds_toArray, List.set_cons_zero, List.set_cons_succ]
      have hf4 := frozenOf (hT1.out (.int .i64 12))
      have hk4 := cellsOf (hT1.out (.int .i64 12))
      refine anyE_only (i := 24) (by simp only [List.getElem?_toArray, List.getElem?_cons_succ, List.getElem?_cons_zero]; rfl) (by kernel_rfl) (fun K hK => ?_)
      go_simp
      have hK2 := keep_set (l := w1.heap.size) (hK1.out (.int .i64 12)) 1 (.int .i64 8)
      have hT2 := set_blk (hT1.out (.int .i64 12)) 1 (.int .i64 8)
      refine hK _ _ (fun h => absurd h (by decide)) ⟨hK2.blk HB1.out (by omega), hK2.blk HB2.out (by omega)⟩ ?_
      clear hK K
      refine anyE_done (by kernel_rfl) ?_ _
      refine NoPanic.normal ?_
      have hT3 := hid hT2
      have hK3 := hid hK2
      clear hT2 hK2 hf4 hk4 hk3 hf3 hS1 hk2 hf2
      go_wp2
      go_roundw
      · exact ⟨2, by omega, rfl, fun h => absurd h (by decide), fun h => absurd h (by decide), fun _ => set_blk (set_blk HT2.out 0 _) 1 _, Keep.drew (keep_set (l := w1.heap.size) (keep_set (l := w1.heap.size) HK2.out 0 _) 1 _)⟩
      · decide
    · have ht := m2 rfl
      clear m0 m1 m2 hbt
      go_wp2_with (go_at_call 27; refine (settle_yes w1.heap.size 12 8 0 wr ht (by omega) (by decide) (by omega) (by decide)).mono ?_; rintro e w2 ⟨rfl, hE2⟩)
      refine bodyPost_ret (results_tmp3 rfl _ _ _) rfl ?_
      exact ⟨rfl, ((Ext.refl w).alloc _).trans (hE.trans ((((Ext.refl w1).alloc _).trans (Ext.refl _)).trans (Ext.refl _) |> fun h => (hK.ext_of h (fun k hk hx => by omega)).trans hE2))⟩
end Go.Proofs.YtgjahejhpkbecaaGreatDoor
