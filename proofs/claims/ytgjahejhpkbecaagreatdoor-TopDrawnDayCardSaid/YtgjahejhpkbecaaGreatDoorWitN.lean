/- Witness: values are added; the deviants, collected. -/
import Derived.Test.YtgjahejhpkbecaaGreatDoorWitM
namespace Go.Proofs.YtgjahejhpkbecaaGreatDoor
open Go.RowKit

theorem tmod_nat (a b : Nat) : ((a : Int)).tmod b = ((a % b : Nat) : Int) := by
  rw [Int.tmod_eq_emod_of_nonneg (Int.natCast_nonneg a)]; rfl
def accF (x y below : Nat) : Nat → Nat
  | 0 => 0
  | 1 => x
  | _ => (x + y) % below

set_option maxRecDepth 20000 in
set_option maxHeartbeats 1000000 in
theorem add_any (below x y b : Nat) (w : World) (hx : x < below) (hy : y < below) (hb : below ≤ 100) (hc : w.heap[b]? = some (.cells #[.int .i64 x, .int .i64 y] 3 (0, 0))) :
    Calls Tryz.prog 47 #[.int .i64 below, .slice (some ⟨b, 0, none⟩) 2 2] w fun e w' => e = .returned (.tuple #[.int .i64 (((x + y) % below : Nat) : Int), .bool true]) ∧ w = w' := by
  have hk := cellsOf hc
  have h1 : ((x : Int)).tmod below = x := by rw [tmod_nat, Nat.mod_eq_of_lt hx]
  have h2 : ((x : Int) + y).tmod below = (((x + y) % below : Nat) : Int) := by rw [← tmod_nat]; rfl
  obtain ⟨S, hS⟩ : ∃ S, S = (x + y) % below := ⟨_, rfl⟩
  rw [← hS] at h2 ⊢
  have hS1 : S < below := by rw [hS]; exact Nat.mod_lt _ (by omega)
  have hb0 : (below : Int) ≠ 0 := by omega
  clear hc hS
  go_enter Tryz.func47, Tryz.ntmps47
  go_wp2
  go_loopw [4, 10] (fun m i wr => ∃ k : Nat, k ≤ 2 ∧ i = .int .i64 k ∧ (k = 0 → m = .int .i64 0) ∧ (k = 1 → m = .int .i64 x) ∧ (k = 2 → m = .int .i64 S) ∧ wr = w) (fun _ i _ => 2 - (intOf i).toNat)
  case atStart => exact ⟨0, by omega, rfl, fun _ => rfl, by omega, by omega, rfl⟩
  case round =>
    obtain ⟨k, hk2, rfl, m0, m1, m2, rfl⟩ := hrel
    obtain rfl | rfl | rfl : k = 0 ∨ k = 1 ∨ k = 2 := by omega
    · obtain rfl := m0 rfl
      clear m0 m1 m2
      go_wp2_with (go_at_call 35; refine (wwithin _ _ _ _ (by omega)).mono ?_; rintro e w' ⟨rfl, rfl⟩)
      go_roundw
      case rel => exact ⟨1, by omega, by go_num, by omega, fun _ => rfl, by omega, by trivial⟩
      case measure => simp [intOf]
    · obtain rfl := m1 rfl
      clear m0 m1 m2
      go_wp2_with (go_at_call 35; refine (wwithin _ _ _ _ (by omega)).mono ?_; rintro e w' ⟨rfl, rfl⟩)
      go_roundw
      case rel => exact ⟨2, by omega, by go_num, by omega, by omega, fun _ => rfl, by trivial⟩
      case measure => simp [intOf]
    · obtain rfl := m2 rfl
      clear m0 m1 m2
      go_wp2
      refine bodyPost_ret (results_tmp2 rfl _ _ _) rfl ?_
      exact ⟨rfl, rfl⟩
attribute [local go_sem] Oper.semAt_some
set_option maxRecDepth 20000 in
set_option maxHeartbeats 1000000 in
theorem AppendSeq_none (gf : Nat) (fa lb : Array Value) (w : World) (eg : ∀ args w, (callFunc gf args).run Tryz.prog w = .ok (.enter gf args) w)
    (hnone : ∀ (l : Nat) (W : World), Ext w W → Calls Tryz.prog gf (fa ++ #[.func (.yield l) #[] #[]] ++ lb) W fun e B => (∃ v, e = .returned v) ∧ Ext W B) :
    Calls Tryz.prog 78 #[.slice none 0 0, .func (.func gf) fa lb] w fun e w' => e = .returned (.slice none 0 0) ∧ Ext w w' := by
  have hfn : ∀ f, Fence.wide.fn f := fun _ => trivial
  have hdp : Fence.wide.depth = none := rfl
  have H := hid hnone
  have HE := hid eg
  obtain ⟨W, hW⟩ : ∃ W, W = w.alloc (.cells #[.slice none 0 0] 72) := ⟨_, rfl⟩
  have hE : Ext w W := by rw [hW]; exact (Ext.refl w).alloc _
  have hb : W.heap[w.heap.size]? = some (.cells #[.slice none 0 0] 72) := by rw [hW]; exact heap_alloc_new w _
  have B := hid hb
  have E := hid hE
  clear hnone eg hb hE
  refine (callsIn_wide (n := 0)).1 ?_
  refine callsIn_of_wp_marks Tryz.func78 rfl trivial ?_ rfl
  simp only [Tryz.ntmps78, List.size_toArray, List.length_cons, List.length_nil, Nat.reduceAdd, Nat.reduceSub, Array.replicate_succ, Array.replicate_zero, List.push_toArray, List.append_toArray, List.nil_append, List.cons_append]
  gi_wp2
  rw [← hW]
  clear hW
  refine wpIn_range_none (P := Tryz.prog) rfl HE.out (fun l W' h => H.out l W' (E.out.trans h)) ?_
  intro D W' hD hE' hp hd
  have hk := cellsOf (hE'.blk' B.out)
  have HD := hid hd
  have HP := hid hp
  clear hp hd
  gi_wp2
  exact leaves_mark HD.out (results_tmp rfl _ _ _) ⟨rfl, E.out.trans (HP.out _)⟩
theorem Collect_none (gf : Nat) (fa lb : Array Value) (w : World) (eg : ∀ args w, (callFunc gf args).run Tryz.prog w = .ok (.enter gf args) w)
    (hnone : ∀ (l : Nat) (W : World), Ext w W → Calls Tryz.prog gf (fa ++ #[.func (.yield l) #[] #[]] ++ lb) W fun e B => (∃ v, e = .returned v) ∧ Ext W B) :
    Calls Tryz.prog 48 #[.func (.func gf) fa lb] w fun e w' => e = .returned (.slice none 0 0) ∧ Ext w w' := by
  have c := hid (AppendSeq_none gf fa lb w eg hnone)
  clear eg hnone
  go_enter Tryz.func48, Tryz.ntmps48
  go_wp2_with (go_at_call 78; refine c.out.mono ?_; rintro e w' ⟨rfl, hb⟩)
  go_ret
  exact ⟨rfl, hb⟩
theorem Deviants_none (base db pb below : Nat) (ps : List Per) (s o n : Nat) (w : World) (hD : DrawAt w base db pb below ps s o n) (hlen : ps.length ≤ 30) (hall : ∀ p ∈ ps, 0 < p.opn ∧ p.right = true) :
    Calls Tryz.prog 20 #[.pointer (some ⟨db, 0, none⟩)] w fun e w' => e = .returned (.tuple #[.slice none 0 0, .int .i64 0]) ∧ Ext w w' := by
  have c := hid (fun W (hW : Ext w W) => Collect_none 46 #[.pointer (some ⟨db, 0, none⟩)] #[] W (enters Tryz.func46 (by kernel_rfl) rfl)
    (fun l W' h => deviants_none base db pb below ps s o n (.func (.yield l) #[] #[]) W' (hD.later (hW.trans h)) hlen hall))
  have hm : ∀ (fn : Fn) (first cap : Array Value) (w : World), (Instr.makeFunc fn first cap).run Tryz.prog w = .ok (.func fn first cap) w := fun _ _ _ _ => rfl
  clear hD hall
  go_enter Tryz.func20, Tryz.ntmps20
  go_wp2_with (go_at_call 48; refine (c.out _ (Ext.refl w)).mono ?_; rintro e w' ⟨rfl, hb⟩)
  refine bodyPost_ret (results_tmp2 rfl _ _ _) rfl ?_
  exact ⟨rfl, hb⟩
end Go.Proofs.YtgjahejhpkbecaaGreatDoor
