/- A range over a function that yields nothing (a method's value among them). -/
import Derived.Test.YtgjahejhpkbecaaGreatDoorRange
namespace Go.Proofs.YtgjahejhpkbecaaGreatDoor
open Go.RowKit
variable {P : Program}

theorem wpIn_range_none {gf : Nat} {fa lb : Array Value} {g : Operand} {ps : Array Tmp} {assign body : Code} {Q : Exit → Act → World → Prop} {a : Act} {w : World}
    (hg : a.eval g = .func (.func gf) fa lb) (eg : ∀ args w, (callFunc gf args).run P w = .ok (.enter gf args) w)
    (hnone : ∀ (l : Nat) (W : World), Ext w W → Calls P gf (fa ++ #[.func (.yield l) #[] #[]] ++ lb) W fun e B => (∃ v, e = .returned v) ∧ Ext W B)
    (hdone : ∀ (D : Nat) (W : World), w.heap.size ≤ D → Ext w W → (∀ o, Ext w (W.putObj D o)) → W.heap[D]? = some (.deferred (some [])) → Q .normal { a with defers := { target := .collected D, args := #[] } :: a.defers } W) :
    (Code.rangeFunc g ps assign body).wpIn Fence.wide 0 P Q a w := by
  refine wpIn_rangeFunc ?_
  intro fn hfn
  obtain ⟨rec, hrec⟩ : ∃ rec : LoopState → Option Code → Loop, rec = fun st pe => { state := st, pending := pe, fn, tmps := a.tmps, params := ps, assign, body, defers := w.heap.size } := ⟨_, rfl⟩
  obtain ⟨W1, hW1⟩ : ∃ W1, (w.alloc (.deferred (some []))).alloc (.loop (rec .ready none)) = W1 := ⟨_, rfl⟩
  have hL1 : W1.heap[w.heap.size + 1]? = some (.loop (rec .ready none)) := by
    rw [← hW1]; have := World.alloc_heap_new (w.alloc (.deferred (some []))) (.loop (rec .ready none)); rwa [World.size_alloc] at this
  have hK1 : W1.heap[w.heap.size]? = some (.deferred (some [])) := by
    rw [← hW1]; exact (Below.heap_alloc _ _ _ (by simp)).trans (World.alloc_heap_new w _)
  have hE1 : Ext w W1 := by rw [← hW1]; exact ((Ext.refl w).alloc _).alloc _
  refine ⟨w.heap.size + 1, [{ target := .collected w.heap.size, args := #[] }], W1, { target := .fn (.func gf) lb, args := fa ++ #[.func (.yield (w.heap.size + 1)) #[] #[]] }, W1, gf,
    fa ++ #[.func (.yield (w.heap.size + 1)) #[] #[]] ++ lb, W1, ?_, ?_, ?_, ?_, ?_, ?_⟩
  · rw [← hW1, hrec]; exact run_enterLoop_outer _ _ _ _ _
  · simp only [resolve, hg]
    simp [go_sem]
  · intro f' _; exact trivial
  · simp [invoke, go_sem, eg]
  · intro h; cases h
  · refine (callsIn_wide.2 (hnone (w.heap.size + 1) W1 hE1)).mono ?_
    rintro e W2 ⟨⟨v, rfl⟩, hE⟩
    have hl := hE.blk' hL1
    have hk := hE.blk' hK1
    have hp : ∀ (A : World) (D : Nat) (o : Obj), w.heap.size ≤ D → Ext w A → Ext w (A.putObj D o) := fun A D o hD hA => ((Keep.of_ext (X := (w.heap.size ≤ ·)) hA).trans (putObj_keep o hD)).ext fun k h1 h2 => by omega
    have h3 := hp W2 (w.heap.size + 1) (.loop (rec .done none)) (by omega) (hE1.trans hE)
    exact ⟨none, _, by have := run_endLoop (P := P) hl (by rw [hrec]; simp); rw [hrec] at this; exact this, hdone _ _ (Nat.le_refl _) (hp W2 _ _ (by omega) (hE1.trans hE)) (fun o => hp _ _ o (Nat.le_refl _) (hp W2 _ _ (by omega) (hE1.trans hE))) ((World.putObj_heap_other (by omega)).trans hk)⟩
end Go.Proofs.YtgjahejhpkbecaaGreatDoor
