/- Witness: the value of a drawing. -/
import Derived.Test.YtgjahejhpkbecaaGreatDoorWitN
import Derived.Test.YtgjahejhpkbecaaGreatDoorSeqA
namespace Go.Proofs.YtgjahejhpkbecaaGreatDoor
open Go.RowKit
attribute [local go_sem] Oper.semAt_some

/-- the sum of values, modulo a number -/
def accV (below : Nat) : List Per → Nat → Nat
  | _, 0 => 0
  | ps, k + 1 => (accV below ps k + (match ps[k]? with | some p => p.value | none => 0)) % below
theorem accV_lt {below : Nat} (h : 0 < below) (ps : List Per) (k : Nat) : accV below ps k < below := by
  cases k with
  | zero => exact h
  | succ k => exact Nat.mod_lt _ h

set_option maxRecDepth 100000 in
set_option maxHeartbeats 1000000 in
theorem Value_any (base db pb below : Nat) (ps : List Per) (s n : Nat) (w : World) (hD : DrawAt w base db pb below ps s ps.length n) (hlen : ps.length ≤ 30) (hall : ∀ p ∈ ps, 0 < p.opn ∧ p.right = true) (hv : ∀ p ∈ ps, p.value < below) (hb : 1 ≤ below ∧ below ≤ 100) :
    Calls Tryz.prog 19 #[.pointer (some ⟨db, 0, none⟩)] w fun e w' => e = .returned (.tuple #[.int .i64 (accV below ps ps.length : Nat), .int .i64 0]) ∧ Ext w w' := by
  have hfn : ∀ f, Fence.wide.fn f := fun _ => trivial
  have hdp : Fence.wide.depth = none := rfl
  have hm : ∀ (fn : Fn) (first cap : Array Value) (w : World), (Instr.makeFunc fn first cap).run Tryz.prog w = .ok (.func fn first cap) w := fun _ _ _ _ => rfl
  obtain ⟨W, hW⟩ : ∃ W, W = (w.alloc (.cells #[.int .i64 0] 3)).alloc (.cells #[.int .i64 0] 44) := ⟨_, rfl⟩
  have hE : Ext w W := by rw [hW]; exact ((Ext.refl w).alloc _).alloc _
  have hs : W.heap.size = w.heap.size + 1 + 1 := by rw [hW]; simp
  have b1 : W.heap[w.heap.size]? = some (.cells #[.int .i64 0] 3) := by rw [hW]; exact Ext.blk' ((Ext.refl _).alloc _) (heap_alloc_new w _)
  have b2 : W.heap[w.heap.size + 1]? = some (.cells #[.int .i64 0] 44) := by
    rw [hW]; simpa using heap_alloc_new (w.alloc (.cells #[.int .i64 0] 3)) (.cells #[.int .i64 0] 44)
  have co := hid (fun W (hW : Ext w W) => over_t base db pb below ps s n W (hD.later hW))
  have H := hid hD
  have HA := hid hall
  have HV := hid hv
  have HE := hid hE
  have B1 := hid b1
  have B2 := hid b2
  clear hD hall hv hE b1 b2
  refine (callsIn_wide (n := 0)).1 ?_
  refine callsIn_of_wp_marks Tryz.func19 rfl trivial ?_ rfl
  simp only [Tryz.ntmps19, List.size_toArray, List.length_cons, List.length_nil, Nat.reduceAdd, Nat.reduceSub, Array.replicate_succ, Array.replicate_zero, List.push_toArray, List.append_toArray, List.nil_append, List.cons_append]
  gi_wp2_with (gi_at_call 45; rw [← hW]; refine (callsIn_wide.2 (co.out _ HE.out)).mono ?_; rintro e W1 ⟨rfl, hE1⟩)
  clear hW
  refine wpIn_range_none (P := Tryz.prog) rfl (enters Tryz.func46 (by kernel_rfl) rfl)
    (fun l W' h => deviants_none base db pb below ps s ps.length n (.func (.yield l) #[] #[]) W' (H.out.later ((HE.out.trans hE1).trans h)) hlen HA.out) ?_
  intro D W2 hD2 hE2 hp hd
  have HE2 := hid (hE1.trans hE2)
  have HD := hid hd
  have hsz1 := hE1.size
  clear hp hd hE2
  obtain ⟨s1, s2, s3, s4, s5, s6⟩ := (H.out.later (HE.out.trans HE2.out)).db
  gi_wp2
  gi_loopw [4, 22] (fun m i wr => ∃ k : Nat, k ≤ ps.length ∧ i = .int .i64 k ∧ m = .int .i64 (accV below ps k : Nat) ∧ Ext W2 wr) (fun _ i _ => ps.length - (intOf i).toNat)
  case atStart => exact ⟨0, Nat.zero_le _, rfl, rfl, Ext.refl _⟩
  case round =>
    obtain ⟨k, hk, rfl, rfl, hE3⟩ := hrel
    by_cases hlt : k < ps.length
    · obtain ⟨p, hpk⟩ : ∃ p, ps[k]? = some p := ⟨_, List.getElem?_eq_getElem hlt⟩
      have hl := hid ((H.out.later ((HE.out.trans HE2.out).trans hE3)).load hpk)
      have hval := HV.out p (List.mem_of_getElem? hpk)
      have hacc := accV_lt (by omega : 0 < below) ps k
      have hnext := hid (show accV below ps (k + 1) = (accV below ps k + p.value) % below by rw [accV, hpk])
      obtain ⟨q1, _⟩ := (H.out.later ((HE.out.trans HE2.out).trans hE3)).db
      have hdbs : db < wr.heap.size := World.block_lt_of_cell? _ _ q1
      generalize accV below ps k = A at hacc hnext ⊢
      obtain ⟨ph, pv, psl, pop, pr⟩ := p
      unfold Per.val at hl
      simp only at hval hnext
      have q2 : ∀ (o : Nat), (wr.alloc (.cells #[.string ph, .int .i64 pv, .int .i64 psl, .int .i64 pop, .bool pr] 106)).cell? ⟨wr.heap.size, o, none⟩ = #[Value.string ph, .int .i64 pv, .int .i64 psl, .int .i64 pop, .bool pr][o]? := cellsOf (heap_alloc_new wr _)
      obtain ⟨W5, hW5⟩ : ∃ W5, W5 = wr.alloc (.cells #[.string ph, .int .i64 pv, .int .i64 psl, .int .i64 pop, .bool pr] 106) := ⟨_, rfl⟩
      rw [← hW5] at q2
      have hE5 : Ext wr W5 := by rw [hW5]; exact (Ext.refl wr).alloc _
      have q3 : W5.cell? ⟨db, 1, none⟩ = some (.int .i64 below) := hE5.cell' q1
      have q4 := q2 1
      clear hpk
      gi_wp2_with (refine wpListIn_load_val (fun _ => trivial) rfl 106 (.tmp 24) rfl _ rfl (.agg #[.string ph, .int .i64 pv, .int .i64 psl, .int .i64 pop, .bool pr]) hl.out ?_)
      rw [← hW5]
      clear hW5
      refine wpIn_wide.2 ?_
      go_region_held3 (fun w' => w'.cell? ⟨db, 1, none⟩ = some (.int .i64 below) ∧ w'.cell? ⟨wr.heap.size, 1, none⟩ = some (.int .i64 pv))
        (first | go_keep | exact ⟨Ext.cell' ((Ext.refl W5).alloc _) q3, Ext.cell' ((Ext.refl W5).alloc _) q4⟩ | exact ⟨Ext.cell' (((Ext.refl W5).alloc _).drew) q3, Ext.cell' (((Ext.refl W5).alloc _).drew) q4⟩ | skip)
        ((go_at_call 47; refine (add_any below A pv W5.heap.size ((W5.alloc (.cells #[.int .i64 A, .int .i64 pv] 3)).drew) hacc hval hb.2 (heap_alloc_new W5 _)).mono ?_; rintro e w6 ⟨rfl, rfl⟩))
      have hE6 := hid (((hE3.trans hE5).alloc (.cells #[.int .i64 A, .int .i64 pv] 3)).drew)
      clear hE3 hE5 q1 q2 q3 q4 hl
      gi_wp2
      go_roundw
      case rel => exact ⟨k + 1, by omega, by go_num, by rw [hnext.out]; simp, hE6.out⟩
      case measure => simp [intOf]; omega
    · obtain rfl : k = ps.length := by omega
      have HE3 := hid (HE2.out.trans hE3)
      have hd3 := hid (hE3.blk' HD.out)
      have hk1 := cellsOf (HE3.out.blk' B1.out)
      have hf1 := frozenOf (HE3.out.blk' B1.out)
      have hk2 := cellsOf (HE3.out.blk' B2.out)
      have hf2 := frozenOf (HE3.out.blk' B2.out)
      have hD2' := hD2
      clear hE3
      gi_wp2
      have hp := putObj_keep (Z := fun k => k = D) (w := (wr.setCell ⟨w.heap.size, 0, none⟩ (.int .i64 (accV below ps ps.length : Nat))).setCell ⟨w.heap.size + 1, 0, none⟩ (.int .i64 0)) (.deferred none) rfl
      refine leaves_mark (D := D) ((Below.heap_setCell _ _ _ _ (by dsimp only; omega)).trans ((Below.heap_setCell _ _ _ _ (by dsimp only; omega)).trans hd3.out)) (results_cell2 (p1 := ⟨w.heap.size, 0, none⟩) (p2 := ⟨w.heap.size + 1, 0, none⟩) (v1 := .int .i64 (accV below ps ps.length : Nat)) (v2 := .int .i64 0) rfl Tryz.underlying3 rfl Tryz.underlying44 rfl rfl
        (cellsOf (hp.blk ((Below.heap_setCell _ _ _ _ (by dsimp only; omega)).trans (set_blk (HE3.out.blk' B1.out) 0 _)) (by omega)) 0) rfl (cellsOf (hp.blk (set_blk ((Below.heap_setCell _ _ _ _ (by dsimp only; omega)).trans (HE3.out.blk' B2.out)) 0 _) (by omega)) 0)) ⟨rfl, ?_⟩
      exact ((Keep.of_ext (X := fun k => w.heap.size ≤ k) (HE.out.trans HE3.out)).trans ((Keep.setCell (Keep.setCell (Keep.refl (fun k => w.heap.size ≤ k) wr) (p := ⟨w.heap.size, 0, none⟩) (.inl (Nat.le_refl _)) _) (p := ⟨w.heap.size + 1, 0, none⟩) (.inl (Nat.le_succ _)) _).trans (hp.mono fun k _ h => by have h : k = D := h; show w.heap.size ≤ k; omega))).ext fun k h1 h2 => by have h2 : w.heap.size ≤ k := h2; omega
end Go.Proofs.YtgjahejhpkbecaaGreatDoor
