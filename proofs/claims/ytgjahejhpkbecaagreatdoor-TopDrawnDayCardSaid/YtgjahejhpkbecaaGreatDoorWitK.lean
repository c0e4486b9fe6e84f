/- Witness: a box is opened. -/
import Derived.Test.YtgjahejhpkbecaaGreatDoorWitJ
namespace Go.Proofs.YtgjahejhpkbecaaGreatDoor
open Go.RowKit

def sealN (p v : Nat) : Nat := (sealF p v).toNat
theorem sealN_lt (p v : Nat) : sealN p v < 18446744073709551616 ∧ sealF p v = (sealN p v : Nat) := by
  have h : ∃ x b, sealF p v = stepH x b := by
    refine ⟨withF (withF (withF (withF (withF 14695981039346656037 (decB p).data.toList) colon.data.toList) (decB v).data.toList) colon.data.toList) [115, 97, 108], 116, rfl⟩
  obtain ⟨x, b, h⟩ := h
  have h2 : ∃ y, sealF p v = y % 18446744073709551616 := ⟨_, h.trans (IntKind.wrap_u64 _)⟩
  obtain ⟨y, hy⟩ := h2
  unfold sealN
  omega
/-- the hash of the box of a person -/
def hashB (p v : Nat) : ByteArray := ⟨(hashL (sealN p v)).toArray⟩
theorem stringBox (p v : Nat) (w : World) (ht : w.cell? ⟨5, 15, none⟩ = some (.int .u8 4)) :
    Calls Tryz.prog 40 #[.int .u64 (sealF p v)] w fun e w' => e = .returned (.string (hashB p v)) ∧ Ext w w' := by
  rw [(sealN_lt p v).2]
  exact String_any _ (sealN_lt p v).1 w ht

set_option maxRecDepth 100000 in
set_option maxHeartbeats 3200000 in
theorem SealBox_any (p v : Nat) (hp : 1 ≤ p ∧ p ≤ 30) (hv : v < 100) (w : World) (ht : w.cell? ⟨5, 15, none⟩ = some (.int .u8 4)) :
    Calls Tryz.prog 16 #[boxV p v] w fun e w' => e = .returned (.tuple #[.string (hashB p v), .int .i64 0]) ∧ Ext w w' := by
  have c1 := hid (fun W => isBox_t p v hp (by omega) W)
  have c2 := hid (fun W => seal_any p v (by omega) hv W)
  have c3 := hid (fun W (hW : Ext w W) => stringBox p v W (hW.cell' ht))
  have hB := hid (heap_alloc_new w (.cells #[.int .i64 p, .int .i64 v, .string salt] 67))
  generalize hashB p v = H at c3 ⊢
  generalize sealF p v = F at c2 c3
  clear ht
  unfold boxV at c1 c2 ⊢
  generalize salt = Z at c1 c2 hB ⊢
  go_enter Tryz.func16, Tryz.ntmps16
  go_wp2_with (first | (go_at_call 38; refine (c1.out _).mono ?_; rintro e w' ⟨rfl, hb⟩; have hE := Ext.trans (a := w) (by (repeat (first | (with_reducible assumption) | (with_reducible exact Ext.refl _) | (with_reducible refine Ext.alloc ?_ _) | (with_reducible refine Ext.drew ?_)))) hb; have hB := hid (hb.blk' hB.out); have hk := cellsOf hB.out; clear hb) | (go_at_call 39; refine (c2.out _).mono ?_; rintro e w' ⟨rfl, hb⟩; have hE := Ext.trans (a := w) (by (repeat (first | (with_reducible assumption) | (with_reducible exact Ext.refl _) | (with_reducible refine Ext.alloc ?_ _) | (with_reducible refine Ext.drew ?_)))) hb; have hB := hid (hb.blk' hB.out); have hk := cellsOf hB.out; clear hb) | (go_at_call 40; refine (c3.out _ (by (repeat (first | (with_reducible assumption) | (with_reducible exact Ext.refl _) | (with_reducible refine Ext.alloc ?_ _) | (with_reducible refine Ext.drew ?_))))).mono ?_; rintro e w' ⟨rfl, hb⟩; have hE := Ext.trans (a := w) (by (repeat (first | (with_reducible assumption) | (with_reducible exact Ext.refl _) | (with_reducible refine Ext.alloc ?_ _) | (with_reducible refine Ext.drew ?_)))) hb; have hB := hid (hb.blk' hB.out); have hk := cellsOf hB.out; clear hb))
  refine bodyPost_ret (results_tmp2 rfl _ _ _) rfl ?_
  exact ⟨rfl, hE⟩
end Go.Proofs.YtgjahejhpkbecaaGreatDoor
