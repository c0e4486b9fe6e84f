/- Almanacs, continued: Check; what tests and rules are valid. -/
import Derived.Test.YtgjahejhpkbecaaGreatDoorAlmA
namespace Go.Proofs.YtgjahejhpkbecaaGreatDoor
open Go.RowKit

/-- the cycles of an almanac lie at an address -/
def AlmAt (w : World) (A : Alm) (a : Option Addr) : Prop := A.cycles.length ≤ 1000000000 ∧ Elems Tryz.prog 35 2 w a (A.cycles.map Cyc.enc)
theorem AlmAt.later {w w' : World} {A : Alm} {a : Option Addr} (h : AlmAt w A a) (he : Ext w w') : AlmAt w' A a := ⟨h.1, h.2.later he⟩

def errAlm (A : Alm) : Int := if A.ok then 0 else 2
theorem errAlm_ok {A : Alm} (h : errAlm A = 0) : A.ok = true := by unfold errAlm at h; split at h <;> simp_all
theorem errAlm_of {A : Alm} (h : A.ok = true) : errAlm A = 0 := by simp [errAlm, h]
theorem Alm.ok_cycles {A : Alm} (h : A.ok = true) : okCycles A.cycles = true := by simp only [Alm.ok, Bool.and_eq_true] at h; exact h.1.1.2
theorem Check_any (A : Alm) (a : Option Addr) (cp : Nat) (w : World) (h : AlmAt w A a) :
    Calls Tryz.prog 28 #[A.val a cp] w fun e w' => e = .returned (.int .i64 (errAlm A)) ∧ Ext w w' := by
  obtain ⟨cs, ⟨s1, s2, s3⟩, ⟨l1, l2, l3, l4, l5, l6, l7⟩⟩ := A
  unfold Alm.val
  have H := hid h
  clear h
  have hv : ∀ (o : Obj), Elems Tryz.prog 35 2 (w.alloc o) a (cs.map Cyc.enc) := fun o => H.out.2.later ((Ext.refl _).alloc _)
  have HV := hid hv
  clear hv
  have HB := hid (heap_alloc_new w (.cells #[.slice a cs.length cp, .int .i64 s1, .int .i64 s2, .int .i64 s3, .int .i64 l1, .int .i64 l2, .int .i64 l3, .int .i64 l4, .int .i64 l5, .int .i64 l6, .int .i64 l7] 32))
  go_enter Tryz.func28, Tryz.ntmps28
  go_wp2_with (first | (go_at_call 64; refine (areCycles_any cs _ _ _ H.out.1 (HV.out _)).mono ?_; rintro e w' ⟨rfl, hb⟩; have hE := Ext.trans (a := w) (by (repeat (first | (with_reducible assumption) | (with_reducible exact Ext.refl _) | (with_reducible refine Ext.alloc ?_ _) | (with_reducible refine Ext.drew ?_)))) hb; have HB := hid (hb.blk' HB.out); have hk := cellsOf HB.out; clear hb) | (go_at_call 65; refine (isSolar_any ⟨s1, s2, s3⟩ _).mono ?_; rintro e w' ⟨rfl, hb⟩; have hE := Ext.trans (a := w) (by (repeat (first | (with_reducible assumption) | (with_reducible exact Ext.refl _) | (with_reducible refine Ext.alloc ?_ _) | (with_reducible refine Ext.drew ?_)))) hb; have HB := hid (hb.blk' HB.out); have hk := cellsOf HB.out; clear hb) | (go_at_call 66; refine (isLunar_any ⟨l1, l2, l3, l4, l5, l6, l7⟩ _).mono ?_; rintro e w' ⟨rfl, hb⟩; have hE := Ext.trans (a := w) (by (repeat (first | (with_reducible assumption) | (with_reducible exact Ext.refl _) | (with_reducible refine Ext.alloc ?_ _) | (with_reducible refine Ext.drew ?_)))) hb; have HB := hid (hb.blk' HB.out); have hk := cellsOf HB.out; clear hb))
  all_goals
    go_ret
    refine ⟨ret_int ?_, by (repeat (first | (with_reducible assumption) | (with_reducible exact Ext.refl _) | (with_reducible refine Ext.alloc ?_ _) | (with_reducible refine Ext.drew ?_)))⟩
    clear HB
    grind [Alm.ok, errAlm]

end Go.Proofs.YtgjahejhpkbecaaGreatDoor
