/- Witness: is a drawing over, or running? -/
import Derived.Test.YtgjahejhpkbecaaGreatDoorWitI
namespace Go.Proofs.YtgjahejhpkbecaaGreatDoor
open Go.RowKit

theorem over_f (base db pb below : Nat) (ps : List Per) (s o n : Nat) (w : World) (hD : DrawAt w base db pb below ps s o n) (ho : o < ps.length) :
    Calls Tryz.prog 45 #[.pointer (some ⟨db, 0, none⟩)] w fun e w' => e = .returned (.bool false) ∧ Ext w w' := by
  have s2 : ∀ p : Rg w, p.w'.cell? ⟨db, 2, none⟩ = some (.slice (some ⟨pb, 0, none⟩) ps.length ps.length) := fun p => (hD.later p.h).db.2.1
  have s4 : ∀ p : Rg w, p.w'.cell? ⟨db, 4, none⟩ = some (.int .i64 o) := fun p => (hD.later p.h).db.2.2.2.1
  have s5 : ∀ p : Rg w, p.w'.cell? ⟨db, 5, none⟩ = some (.int .i64 0) := fun p => (hD.later p.h).db.2.2.2.2.1
  have h1 : ¬ (o : Int) = (ps.length : Int) := by omega
  have h2 : ¬ o = ps.length := by omega
  clear hD
  go_enter Tryz.func45, Tryz.ntmps45
  go_wp2
  refine wp_region_rg (by kernel_rfl) (by kernel_rfl) ?_
  repeat (go_big_quiet_step (fail))
  refine wpQuiet_nil ?_
  intro p
  go_wp2
  go_ret
  exact ⟨by simp; exact h1, p.h⟩
theorem over_t (base db pb below : Nat) (ps : List Per) (s n : Nat) (w : World) (hD : DrawAt w base db pb below ps s ps.length n) :
    Calls Tryz.prog 45 #[.pointer (some ⟨db, 0, none⟩)] w fun e w' => e = .returned (.bool true) ∧ Ext w w' := by
  have s2 : ∀ p : Rg w, p.w'.cell? ⟨db, 2, none⟩ = some (.slice (some ⟨pb, 0, none⟩) ps.length ps.length) := fun p => (hD.later p.h).db.2.1
  have s4 : ∀ p : Rg w, p.w'.cell? ⟨db, 4, none⟩ = some (.int .i64 ps.length) := fun p => (hD.later p.h).db.2.2.2.1
  have s5 : ∀ p : Rg w, p.w'.cell? ⟨db, 5, none⟩ = some (.int .i64 0) := fun p => (hD.later p.h).db.2.2.2.2.1
  clear hD
  go_enter Tryz.func45, Tryz.ntmps45
  go_wp2
  refine wp_region_rg (by kernel_rfl) (by kernel_rfl) ?_
  repeat (go_big_quiet_step (fail))
  refine wpQuiet_nil ?_
  intro p
  go_wp2
  go_ret
  exact ⟨rfl, p.h⟩
theorem running_t (base db pb below : Nat) (ps : List Per) (o n : Nat) (w : World) (hD : DrawAt w base db pb below ps ps.length o n) (ho : o < ps.length) :
    Calls Tryz.prog 44 #[.pointer (some ⟨db, 0, none⟩)] w fun e w' => e = .returned (.bool true) ∧ Ext w w' := by
  have c := hid (fun (r : Rg w) => Calls.rg (p := r) (v := .bool false) (f := 45) (args := #[.pointer (some ⟨db, 0, none⟩)]) (over_f base db pb below ps ps.length o n r.w' (hD.later r.h) ho))
  have s2 : ∀ p : Rg w, p.w'.cell? ⟨db, 2, none⟩ = some (.slice (some ⟨pb, 0, none⟩) ps.length ps.length) := fun p => (hD.later p.h).db.2.1
  have s3 : ∀ p : Rg w, p.w'.cell? ⟨db, 3, none⟩ = some (.int .i64 ps.length) := fun p => (hD.later p.h).db.2.2.1
  clear hD
  go_enter Tryz.func44, Tryz.ntmps44
  go_wp2
  refine wp_region_rg (by kernel_rfl) (by kernel_rfl) ?_
  repeat (go_big_quiet_step (exact c.out _))
  refine wpQuiet_nil ?_
  intro p
  go_wp2
  go_ret
  exact ⟨rfl, p.h⟩
end Go.Proofs.YtgjahejhpkbecaaGreatDoor
